/- P1, P21.1: any bytes, with their sum or not: entries whose bytes they are, or an error: at every input, without conditions. -/
import Derived.Test.YtfpeeilenocaoaaIdxBackP
import Derived.Test.YtfpeeilenocaoaaFrameAny
namespace Go.Proofs.Ytfpeeilenocaoaa.Idx
open Go.RowKit Go.Proofs.Ytfpeeilenocaoaa.Own Go.Proofs.Ytfpeeilenocaoaa.Rely Go.Proofs.Ytfpeeilenocaoaa.Crc Go.Proofs.Ytfpeeilenocaoaa.Frame
attribute [local go_sem] max_ints min_ints

theorem takeX_err {xs : List Int} {x : Int} (h : takeX xs = .error x) : x ≠ 0 := by
  unfold takeX at h
  split at h
  · injection h with h; omega
  · split at h
    · injection h with h; omega
    · unfold bodyX at h
      simp only at h
      split at h
      · rename_i hq
        injection h with h
        rw [← h]; exact hq
      · split at h
        · rename_i hq
          injection h with h
          omega
        · cases h
section
variable {P : Program} {ops : Array Oper} {rest : List Oper} {o : Oper} {a : Act} {Q : Exit → Act → World → Prop}
/-- A slice of five parts: its run is known. -/
theorem build_known5 (w : World) (hgd : o.guard = none) (t : TypeId) (n : Nat) (x0 x1 x2 x3 x4 : Operand) (ho : o.op = .buildSlice t n #[(0, x0), (1, x1), (2, x2), (3, x3), (4, x4)])
    (v0 v1 v2 v3 v4 v' : Value) (w' : World) (h0 : a.eval x0 = v0) (h1 : a.eval x1 = v1) (h2 : a.eval x2 = v2) (h3 : a.eval x3 = v3) (h4 : a.eval x4 = v4) (hrun : (Instr.buildSlice t n #[(0, v0), (1, v1), (2, v2), (3, v3), (4, v4)]).run P w = .ok v' w') (K : wpList P ops Q rest (a.put o.dst v') w') : wpList P ops Q (o :: rest) a w := by
  refine wpList_plain hgd fun K' hK => ?_
  unfold Oper.wp execOp
  simp only [ho, Sem.run_bind, Sem.run_pure, Result.andThen_ok, List.map_toArray, List.map_cons, List.map_nil, h0, h1, h2, h3, h4, hrun]
  exact hK _ _ K
end
theorem xor_none {z : Int} (hz : 0 ≤ z ∧ z ≤ 255) : bits .xor .u8 z 0 = z := by
  have key : ∀ n : Fin 256, bits .xor .u8 ((n.val : Nat) : Int) 0 = ((n.val : Nat) : Int) := by decide +kernel
  have := key ⟨z.toNat, by omega⟩
  simpa [Int.toNat_of_nonneg hz.1] using this
set_option maxHeartbeats 16000000 in
set_option maxRecDepth 20000 in
theorem any_wf (A0 : Option Addr) (c0 : Nat) (bs : List Int) (A : Option Addr) (c : Nat) (xs : List Itm) (at_ by_ : Int) (w : World) (h0 : ArgI w .u8 A0 c0 bs) (h1 : ArgT w A c xs) (h2 : (Lit.int .u16 at_).wf = true) (h3 : (Lit.int .u8 by_).wf = true) :
    Calls Try.prog 10 #[.slice A0 bs.length c0, .slice A xs.length c, .int .u16 at_, .int .u8 by_] w fun e w' => e = .returned (.bool true) ∧ Below w.heap.size w w' := by
  have hat := wf_u16 h2
  have hby := wf_u8 h3
  obtain ⟨an, rfl⟩ : ∃ n : Nat, at_ = (n : Int) := ⟨at_.toNat, by omega⟩
  have HBS := Lib.hid h0.reads
  have HBB := Lib.hid (show IsBytes bs from fun x hx => wf_u8 (h0.rng x hx))
  have hbc1 := h0.le
  have hbc2 : c0 ≤ 9223372036854775807 := h0.cap
  have HR := Lib.hid h1.reads
  have HOK := Lib.hid h1.okay
  clear h0 h1 h2 h3
  go_enter Try.func10, Try.ntmps10
  go_wp2_with fail
  refine (awake21 w).mono ?_
  rintro e w1 ⟨rfl, hx1⟩
  have X1 := Lib.hid hx1
  clear hx1
  by_cases hlb : 200 < bs.length
  · have g1 : decide ((200 : Int) < (bs.length : Int)) = true := by simp; omega
    go_wp2_with fail
    go_ret
    exact ⟨rfl, X1.out⟩
  have g1 : decide ((200 : Int) < (bs.length : Int)) = false := by simp; omega
  by_cases hl : 20 < xs.length
  · have g2 : decide ((20 : Int) < (xs.length : Int)) = true := by simp; omega
    go_wp2_with fail
    go_ret
    exact ⟨rfl, X1.out⟩
  have g2 : decide ((20 : Int) < (xs.length : Int)) = false := by simp; omega
  have HMK := Lib.hid (make_c A c xs w1 (HR.out.ext X1.out) HOK.out (by omega) an (by omega))
  go_wp2_with fail
  refine HMK.out.mono ?_
  rintro e w2 ⟨v, L, rfl, hmk⟩
  have X2 := Lib.hid (Ext.trans _ _ _ X1.out hmk.ext)
  have hnm := hmk.nmb
  have hL := hmk.len
  obtain ⟨Av, cv, rfl, hcv1, hrd, _, hcv2⟩ := hmk.row.reads
  clear hmk HMK X1 HR HOK
  by_cases hN0 : checkX L = 0
  · have HP := Lib.hid (put_c Av cv L w2 hrd hN0 hnm)
    have hGB := sumd_bytes (part_bytes hN0 hnm L.length)
    replace hGB : IsBytes (sumd (idxB L)) := hGB
    have hGR : rightB (sumd (idxB L)) = true := put_right (part_bytes hN0 hnm L.length)
    have hGT := take_put hN0 hnm
    have hGl : 5 ≤ (sumd (idxB L)).length ∧ (sumd (idxB L)).length ≤ 300004 := by
      have h1 := part_len hN0 L.length
      have h2 : 1 ≤ (idxB L).length := by
        unfold idxB partB
        split
        · exact Wire.enc_pos _
        · have := Wire.enc_pos L.length; simp only [List.length_append]; omega
      rw [sumd_len]
      have h3 : (idxB L).length ≤ 300000 := h1
      omega
    generalize sumd (idxB L) = G at HP hGB hGR hGT hGl
    have HGB := Lib.hid hGB
    have HGR := Lib.hid hGR
    have HGT : RowKit.Hid (∃ LG, takeX G = .ok LG) := Lib.hid ⟨L, hGT⟩
    clear hGB hGR hGT hN0 hnm hrd
    go_wp2_with fail
    refine HP.out.mono ?_
    rintro e w7 ⟨Ag, cg, rfl, hrg, hgc1, hgc2, hx7⟩
    obtain ⟨bg, og, rfl, _, _⟩ := hrg 0 (by omega)
    have HG := Lib.hid hrg
    have X7 := Lib.hid (Ext.trans _ _ _ X2.out hx7)
    have d5 : decide ((G.length : Int) < 5) = false := by simp; omega
    clear hrg hx7 HP X2
    obtain ⟨G0, hG0⟩ : ∃ G0 : List Int, G0 = [] := ⟨_, rfl⟩
    have hx8 : Ext w7 (w7.alloc (.cells #[] 5)) := (Below.refl _ _).alloc (Nat.le_refl _) _
    have hrow8 := Row.lit 5 .u8 [] w7 (by simp)
    obtain ⟨v9, w9, S9, hrun9, hrow9, hst9⟩ := run_append (P := Try.prog) (w7.alloc (.cells #[] 5)) 22 22 5 .u8 1 Try.underlying22 Crc.info_u8 (by decide) (.slice (some ⟨w7.heap.size, 0, none⟩) 0 0) [] G _ (some ⟨bg, og, none⟩) cg hrow8 (hx8.reads HG.out) (by simp; omega)
    rw [List.nil_append] at hrow9
    obtain ⟨g, ct, e9, hSg, hg9⟩ := hrow9.form (by omega)
    subst e9
    have hg7 : w7.heap.size ≤ g := by
      rcases hst9.fresh g ((hSg g).2 rfl) with q | q
      · exact Nat.le_of_eq (show g = w7.heap.size from q).symm
      · exact Nat.le_trans hx8.size q
    have hct := hrow9.shape
    obtain ⟨_, _, ec, hct1, hct2⟩ := hct
    injection ec with ec1 ec2 ec3
    subst ec1 ec3
    clear ec2
    have X9 := Lib.hid (show Ext w w9 from Below.trans (Ext.trans _ _ _ X7.out hx8) (hst9.keep.below (Ext.trans _ _ _ X7.out hx8).size (fun x hx hz => by have hz' : x = w7.heap.size := hz; have := X7.out.size; omega)))
    have HG9 := Lib.hid ((hx8.reads HG.out).keep hst9.keep (fun a ha => by injection ha with ha; subst ha; intro hz; have hz' : bg = w7.heap.size := hz; obtain ⟨_, _, eq, hq, _⟩ := HG.out 0 (by omega); injection eq with eq; injection eq with eq1 _ _; omega))
    have HROW9 := Lib.hid hrow9
    have HRUN9 := Lib.hid hrun9
    obtain ⟨p, hp, hpm⟩ : ∃ p : Nat, Int.tmod (an : Int) (G.length : Int) = (p : Int) ∧ p < G.length := ⟨an % G.length, by rw [Int.tmod_eq_emod_of_nonneg (by omega)]; rfl, Nat.mod_lt _ (by omega)⟩
    have hpl := nat_lt_of hpm
    have hpl2 : (p : Int) < (G.length : Int) := by omega
    have hgnz : ¬ (G.length : Int) = 0 := by omega
    have cp : w9.cell? ⟨g, p, none⟩ = some (.int .u8 (G.getD p 0)) := hrow9.cell hpm
    have fp := hrow9.free p
    obtain ⟨z, hz⟩ : ∃ z, G.getD p 0 = z := ⟨_, rfl⟩
    have hT := hrow9.set p (bits .xor .u8 z by_)
    obtain ⟨T, hTe⟩ : ∃ T, G.set p (bits .xor .u8 z by_) = T := ⟨_, rfl⟩
    have hTb : IsBytes T := by rw [← hTe]; exact set_bytes HGB.out p (xor_byte _ _)
    have hTl : T.length = G.length := by rw [← hTe, List.length_set]
    have hTr : rightB T = decide (by_ = 0) := by
      rw [← hTe, ← hz]
      exact changed_right HGB.out HGR.out hpm hby (by rw [hz, hTe]; exact hTb)
    have hT0 : by_ = 0 → T = G := fun h => by
      have hb := HGB.out z (by rw [← hz, List.getD_eq_getElem?_getD, List.getElem?_eq_getElem hpm]; exact List.getElem_mem hpm)
      rw [← hTe, h, xor_none hb, ← hz]
      rw [List.getD_eq_getElem?_getD, List.getElem?_eq_getElem hpm]
      simp
    rw [hz] at cp
    rw [hTe] at hT
    have HTROW := Lib.hid hT
    have HTB := Lib.hid hTb
    have HTL := Lib.hid hTl
    have HTR := Lib.hid hTr
    have HT0 := Lib.hid hT0
    clear hT hTb hTl hTr hT0 hTe hz
    have HSG := Lib.hid hSg
    clear hx8 hrow8 hrun9 hrow9 hst9 hSg hG0
    go_wp2_with (at_builtin; refine append_known _ rfl _ _ 22 rfl (.slice (some ⟨w7.heap.size, 0, none⟩) 0 0) (.slice (some ⟨bg, og, none⟩) G.length cg) (.slice (some ⟨g, 0, none⟩) G.length ct) w9 rfl rfl HRUN9.out ?_)
    have hst10 := HTROW.out.2
    have hrowT := HTROW.out.1
    have X10 := Lib.hid (show Ext w (w9.setCell ⟨g, p, none⟩ (.int .u8 (bits .xor .u8 z by_))) from Below.setCell X9.out (p := ⟨g, p, none⟩) (Nat.le_trans X7.out.size hg7) _)
    have HG10 := Lib.hid (HG9.out.keep (hst10.keep) (fun a ha => by injection ha with ha; subst ha; intro hz2; have hz' : bg = g := (HSG.out _).1 hz2; obtain ⟨_, _, eq, hq, _⟩ := HG.out 0 (by omega); injection eq with eq; injection eq with eq1 _ _; omega))
    have HRT := Lib.hid (Frame.readsAny hrowT)
    clear hst10 hrowT cp fp HG9
    generalize w9.setCell ⟨g, p, none⟩ (.int .u8 (bits .xor .u8 z by_)) = w10 at X10 HG10 HRT ⊢
    obtain ⟨m4, hm4⟩ : ∃ m4, G.length - 4 = m4 := ⟨_, rfl⟩
    have hTt : (T.take m4).length = m4 := by rw [List.length_take, HTL.out]; omega
    have hTtb : IsBytes (T.take m4) := fun x hx => HTB.out x (List.mem_of_mem_take hx)
    have hs2 := summed_calls w10 (some ⟨g, 0, none⟩) ct (T.take m4) (HRT.out.take m4) hTtb (by omega)
    rw [str_app, hTt] at hs2
    have HS2 := Lib.hid (show Calls Try.prog 19 #[.slice (some ⟨g, 0, none⟩) m4 ct] w10 fun e w' => e = .returned (.string (strOfNums (sumd (T.take m4)))) ∧ Below w10.heap.size w10 w' from hs2)
    have hUb := sumd_bytes hTtb
    have hUl : (sumd (T.take m4)).length = m4 + 4 := by rw [sumd_len, hTt]
    generalize sumd (T.take m4) = U at HS2 hUb hUl
    have HUB := Lib.hid hUb
    have hUl2 : U.length ≤ 400000 := by omega
    rw [hm4]
    clear hs2 hTtb hTt hUb hUl hm4
    refine HS2.out.mono ?_
    rintro e w11 ⟨rfl, hx11⟩
    obtain ⟨cu, w12, hcv12, hru, hx12, hcu1, hcu2⟩ := conv_bytes2 HUB.out (by omega) w11
    have hx10 := Ext.trans _ _ _ hx11 hx12
    have X12 := Lib.hid (Ext.trans _ _ _ X10.out hx10)
    have HG12 := Lib.hid (hx10.reads HG10.out)
    have HT12 := Lib.hid (hx10.reads HRT.out)
    have HU12 := Lib.hid hru
    have HBS12 := Lib.hid (X12.out.reads HBS.out)
    have hVb := sumd_bytes HBB.out
    have hVl : (sumd bs).length = bs.length + 4 := sumd_len bs
    obtain ⟨V, hV⟩ : ∃ V, sumd bs = V := ⟨_, rfl⟩
    rw [hV] at hVb hVl
    have HVB := Lib.hid hVb
    have HVE := Lib.hid hV
    have hVl2 : V.length ≤ 1000 := by omega
    have hpc : p ≤ cg := by omega
    have hgz1 : ((G.length : Int) == 0) = false := beq_eq_false_iff_ne.2 (by omega)
    have hgz2 : decide ((G.length : Int) = 0) = false := decide_eq_false (by omega)
    have hgz3 : ¬ G.length = 0 := by omega
    have hpG : p ≤ G.length := by omega
    clear hx11 hx12 hx10 hru HS2 HG10 HRT X10 HTROW X9 X7 hVb hVl hV
    go_wp2_with fail
    refine wp_region_rely (by kernel_rfl) Ext Ext.refl Ext.trans [[(0, none)], [(11, none)], [(12, none)], [(0, none)], [(68, some 3)], [(69, some 4)], [(9, none)], [(2, none)], [(72, some 7)], [(9, none)], [(74, some 9)], [(73, some 8), (75, some 10)], [(71, some 6), (76, some 11)], [(65, some 0), (66, some 1), (67, some 2), (70, some 5), (77, some 12)], [(78, some 13)], []] [some 65, some 66, some 67, some 68, some 69, some 70, some 71, some 72, some 73, some 74, some 75, some 76, some 77, some 78, some 79, some 80] (by kernel_rfl) (by kernel_rfl) ?_
    apply rely_const; case h => (intro wr hR a h0 K hK; go_wp2_with fail; exact Ext.refl _)
    apply rely_const; case h => (intro wr hR a h11 K hK; go_wp2_with fail; exact Ext.refl _)
    apply rely_const; case h => (intro wr hR a h12 K hK; go_wp2_with fail; exact Ext.refl _)
    apply rely_const; case h => (intro wr hR a h0 K hK; go_wp2_with fail; exact Ext.refl _)
    apply rely_const
    case h =>
      intro wr hR a h68 K hK
      have hs := summed_calls wr A0 c0 bs (hR.undrew.reads HBS12.out) HBB.out (by omega)
      rw [str_app] at hs
      have HS := Lib.hid (show Calls Try.prog 19 #[.slice A0 bs.length c0] wr fun e w' => e = .returned (.string (strOfNums V)) ∧ Below wr.heap.size wr w' from by rw [← HVE.out]; exact hs)
      clear hs
      go_wp2_with fail
      refine (HS.out).mono ?_
      rintro e w2 ⟨rfl, hb⟩
      go_wp2_with fail
      exact hb
    refine rely_rel (fun v wr => ∃ A c, v = .slice A V.length c ∧ Reads wr .u8 A V ∧ V.length ≤ c ∧ c ≤ 9223372036854775807) (fun v w w' ⟨A1, c1, e, h, h1⟩ x => ⟨A1, c1, e, x.reads h, h1⟩) ?h5 ?_
    case h5 =>
      intro wr hR a h69 K hK
      obtain ⟨cx, wv, hcv, hrdv, hxv, hcp⟩ := conv_bytes2 HVB.out (by omega) wr
      have HK := Lib.hid (hK _ _ hxv ⟨_, _, rfl, hrdv, hcp⟩)
      clear hK hrdv hxv hcp
      go_wp2_with fail
      exact HK.out
    apply rely_const; case h => (intro wr hR a h9 K hK; go_wp2_with fail; exact Ext.refl _)
    apply rely_const; case h => (intro wr hR a h2 K hK; go_wp2_with fail; exact Ext.refl _)
    apply rely_const; case h => (intro wr hR a h72 K hK; go_wp2_with fail; exact Ext.refl _)
    apply rely_const; case h => (intro wr hR a h9 K hK; go_wp2_with fail; exact Ext.refl _)
    apply rely_const; case h => (intro wr hR a h74 K hK; go_wp2_with fail; exact Ext.refl _)
    apply rely_const; case h => (intro wr hR a h73 h75 K hK; go_wp2_with fail; exact Ext.refl _)
    apply rely_const; case h => (intro wr hR a h71 h76 K hK; go_wp2_with fail; exact Ext.refl _)
    refine rely_rel (fun v wr => ∃ q, v = .slice (some ⟨q, 0, none⟩) 5 5 ∧ ∀ j : Nat, j < 5 → ∃ (A : Option Addr) (L : List Int) (c : Nat), wr.cell? ⟨q, j, none⟩ = some (.slice A L.length c) ∧ Reads wr .u8 A L ∧ IsBytes L ∧ L.length ≤ 1000000 ∧ L.length ≤ c ∧ c ≤ 9223372036854775807) (fun v w w' ⟨q, e, h⟩ x => ⟨q, e, fun j hj => by
      obtain ⟨A, L, c, h1, h2, h3⟩ := h j hj
      exact ⟨A, L, c, x.cell h1, x.reads h2, h3⟩⟩) ?h13 ?_
    case h13 =>
      rintro wr hR a h65 h66 h67 v h70 ⟨A7, c7, rfl, hr7, hc71, hc72⟩ h77 K hK
      have hxq : Ext wr (wr.alloc (.cells #[.slice A0 bs.length c0, .slice (some ⟨g, 0, none⟩) G.length ct, .slice (some ⟨w11.heap.size, 0, none⟩) U.length cu, .slice A7 V.length c7, .slice (some ⟨bg, og, none⟩) p cg] 22)) := (Below.refl _ _).alloc (Nat.le_refl _) _
      have hbq := heap_alloc_new wr (.cells #[.slice A0 bs.length c0, .slice (some ⟨g, 0, none⟩) G.length ct, .slice (some ⟨w11.heap.size, 0, none⟩) U.length cu, .slice A7 V.length c7, .slice (some ⟨bg, og, none⟩) p cg] 22)
      have hce := fun j => Blk.cell (S := fun q => q = wr.heap.size) ⟨hbq, fun _ => Iff.rfl⟩ j
      have hE := Ext.trans _ _ _ hR.undrew hxq
      refine build_known5 wr rfl _ _ _ _ _ _ _ rfl (.slice A0 bs.length c0) (.slice (some ⟨g, 0, none⟩) G.length ct) (.slice (some ⟨w11.heap.size, 0, none⟩) U.length cu) (.slice A7 V.length c7) (.slice (some ⟨bg, og, none⟩) p cg) (.slice (some ⟨wr.heap.size, 0, none⟩) 5 5) _ h65 h66 h67 h70 h77 (show _ = Result.ok _ (wr.alloc (.cells #[.slice A0 bs.length c0, .slice (some ⟨g, 0, none⟩) G.length ct, .slice (some ⟨w11.heap.size, 0, none⟩) U.length cu, .slice A7 V.length c7, .slice (some ⟨bg, og, none⟩) p cg] 22)) from by simp [Instr.buildSlice, go_sem]) ?_
      have HK := Lib.hid (hK _ _ hxq ⟨wr.heap.size, rfl, fun j hj => by
        match j, hj with
        | 0, _ => exact ⟨A0, bs, c0, hce 0, hE.reads HBS12.out, HBB.out, by omega, hbc1, hbc2⟩
        | 1, _ => exact ⟨some ⟨g, 0, none⟩, T, ct, by rw [HTL.out]; exact hce 1, hE.reads HT12.out, HTB.out, by rw [HTL.out]; omega, by rw [HTL.out]; exact hct1, hct2⟩
        | 2, _ => exact ⟨_, U, cu, hce 2, hE.reads HU12.out, HUB.out, by omega, hcu1, hcu2⟩
        | 3, _ => exact ⟨A7, V, c7, hce 3, hxq.reads hr7, HVB.out, by omega, hc71, hc72⟩
        | 4, _ => exact ⟨(some ⟨bg, og, none⟩), G.take p, cg, by rw [List.length_take, Nat.min_eq_left hpG]; exact hce 4, (hE.reads HG12.out).take p, fun x hx => HGB.out x (List.mem_of_mem_take hx), by rw [List.length_take]; omega, by rw [List.length_take]; omega, hgc2⟩⟩)
      clear hK hce hbq hxq hE hr7
      go_wp2_with fail
      exact HK.out
    apply rely_const; case h => (rintro wr hR a v h78 ⟨q, rfl, _⟩ K hK; go_wp2_with fail; exact Ext.refl _)
    apply rely_const; case h => (intro wr hR a K hK; go_wp2_with fail; exact Ext.refl _)
    refine rely_end ?_
    intro w13 hR
    simp only [ends, Act.put, List.setIfInBounds_toArray, List.set_cons_zero, List.set_cons_succ]
    rintro v70 - v78 ⟨q5, rfl, hel⟩
    have X13 := Lib.hid (Ext.trans _ _ _ X12.out hR.undrew)
    have HT13 := Lib.hid (hR.undrew.reads HT12.out)
    have HEL := Lib.hid hel
    clear hR hel HBS12 HT12 HU12 HG12 X12
    go_wp2_with fail
    go_loopw [80] (fun v wq => ∃ j : Nat, j ≤ 5 ∧ v = .int .i64 j ∧ Ext w13 wq) (fun v _ => 5 - (intOf v).toNat)
    case atStart => exact ⟨0, by omega, rfl, Ext.refl _⟩
    case round =>
      obtain ⟨j, hj, rfl, hxr⟩ := hrel
      have XR := Lib.hid hxr
      clear hxr
      by_cases hj2 : j < 5
      · have hj4 : decide ((j : Int) < 5) = true := by simp; omega
        obtain ⟨A, X, cX, cx, hrd, hLb, hLl, hLc, hcm⟩ := HEL.out j hj2
        replace cx := XR.out.cell cx
        have HRL := Lib.hid (XR.out.reads hrd)
        have HLB := Lib.hid hLb
        clear hrd hLb
        go_wp2_with fail
        refine (take_c A cX X wr HRL.out HLB.out hLl hLc hcm).mono ?_
        rintro e w8 ⟨hx8, ht⟩
        cases htk : takeX X with
        | error x =>
          rw [htk] at ht
          obtain rfl := ht
          have XT := Lib.hid (Ext.trans _ _ _ XR.out hx8)
          have hx0 := takeX_err htk
          have hx0b : (x != 0) = true := by simpa using hx0
          clear hx8 htk
          go_wp2_with fail
          go_roundw
          case rel => exact ⟨j + 1, by omega, by go_num, XT.out⟩
          case measure => simp [intOf]; omega
        | ok l =>
          rw [htk] at ht
          obtain ⟨A9, c9, rfl, hrd9, hl9, hc9⟩ := ht
          obtain ⟨hX, hck, hnmb⟩ := take_back HLB.out htk
          have XT := Lib.hid (Ext.trans _ _ _ XR.out hx8)
          have hp := put_c A9 c9 l w8 hrd9 hck hnmb
          rw [← hX] at hp
          have HP := Lib.hid hp
          have HRL9 := Lib.hid (hx8.reads HRL.out)
          clear hp hx8 htk hrd9 hX hck hnmb
          go_wp2_with fail
          refine HP.out.mono ?_
          rintro e wa ⟨A10, c10, rfl, hrd10, _, _, hx10⟩
          have cv1 : (convert 22 9 (.slice A10 X.length c10)).run Try.prog wa = .ok (.string (strOfNums X)) wa := hrd10.string (P := Try.prog) Try.underlying22 Try.underlying5 Try.underlying9 c10
          have cv2 : (convert 22 9 (.slice A X.length cX)).run Try.prog wa = .ok (.string (strOfNums X)) wa := (hx10.reads HRL9.out).string (P := Try.prog) Try.underlying22 Try.underlying5 Try.underlying9 cX
          have X10 := Lib.hid (Ext.trans _ _ _ XT.out hx10)
          clear hx10 hrd10 HP
          go_wp2_with fail
          go_roundw
          case rel => exact ⟨j + 1, by omega, by go_num, X10.out⟩
          case measure => simp [intOf]; omega
      · obtain rfl : j = 5 := by omega
        have hrt := XR.out.reads HT13.out
        have htc := take_c (some ⟨g, 0, none⟩) ct T wr hrt HTB.out (by rw [HTL.out]; omega) (by rw [HTL.out]; exact hct1) hct2
        rw [HTL.out] at htc
        have HTC := Lib.hid htc
        clear htc hrt
        go_wp2_with fail
        refine HTC.out.mono ?_
        rintro e wz ⟨hxz, ht⟩
        have XZ := Lib.hid (Ext.trans _ _ _ X13.out (Ext.trans _ _ _ XR.out hxz))
        clear hxz HTC
        by_cases hb0 : by_ = 0
        · have hTG := HT0.out hb0
          obtain ⟨LG, hLG⟩ := HGT.out
          rw [hTG, hLG] at ht
          obtain ⟨A9, c9, rfl, _⟩ := ht
          have hbq : (by_ == 0) = true := by simpa using hb0
          clear hTG hLG hb0
          go_wp2_with fail
          go_ret
          exact ⟨by simp [hbq], XZ.out⟩
        · have hTf : takeX T = .error 10 := by
            have hr := HTR.out
            rw [decide_eq_false hb0] at hr
            unfold takeX
            rw [if_neg (by rw [HTL.out]; omega), if_pos hr]
          rw [hTf] at ht
          obtain rfl := ht
          have hbq : (by_ == 0) = false := by simpa using hb0
          clear hTf
          go_wp2_with fail
          go_ret
          exact ⟨by simp [hbq], XZ.out⟩
  · have HP := Lib.hid (put_bad Av cv L w2 hrd (by omega) hN0)
    obtain ⟨N, hN⟩ : ∃ N, checkX L = N := ⟨_, rfl⟩
    rw [hN] at HP
    have hrow0 := Row.lit 5 .u8 [0]
    clear hN0 hN hnm hrd
    go_wp2_with fail
    refine HP.out.mono ?_
    rintro e w3 ⟨rfl, hx3⟩
    have X3 := Lib.hid (Ext.trans _ _ _ X2.out hx3)
    obtain ⟨w4, hw4⟩ : ∃ w4, w3.alloc (.cells #[.int .u8 0] 5) = w4 := ⟨_, rfl⟩
    have hx4 : Ext w3 w4 := by rw [← hw4]; exact (Below.refl _ _).alloc (Nat.le_refl _) _
    have hr4 : Reads w4 .u8 (some ⟨w3.heap.size, 0, none⟩) [0] := by rw [← hw4]; exact (hrow0 w3 (by simp)).readsAt
    have hs := summed_calls w4 (some ⟨w3.heap.size, 0, none⟩) 1 [0] hr4 (fun x hx => by rw [List.mem_singleton.1 hx]; decide) (by decide)
    rw [str_app] at hs
    have HS := Lib.hid (show Calls Try.prog 19 #[.slice (some ⟨w3.heap.size, 0, none⟩) 1 1] w4 fun e w' => e = .returned (.string (strOfNums (sumd [0]))) ∧ Below w4.heap.size w4 w' from hs)
    have X4 := Lib.hid (Ext.trans _ _ _ X3.out hx4)
    clear hx3 hx4 hr4 hs hrow0 X2 X3 HP
    have hfl5 : (sumd [0]).length = 5 := by rw [sumd_len]; rfl
    have hgb : IsBytes (sumd [0]) := sumd_bytes (fun x hx => by rw [List.mem_singleton.1 hx]; decide)
    have hgr : rightB (sumd [0]) = true := put_right (fun x hx => by rw [List.mem_singleton.1 hx]; decide)
    have hgt : ∃ LG, takeX (sumd [0]) = .ok LG := ⟨[], by rw [← idx_nil]; exact take_put (l := []) rfl (fun x hx => by cases hx)⟩
    generalize sumd [0] = G at HS hfl5 hgb hgr hgt
    have HGB := Lib.hid hgb
    have HGR := Lib.hid hgr
    have HGT := Lib.hid hgt
    have hGl : 5 ≤ G.length ∧ G.length ≤ 300004 := by omega
    clear hgb hgr hgt
    go_wp2_with fail
    refine HS.out.mono ?_
    rintro e w5 ⟨rfl, hx5⟩
    obtain ⟨cg, w7, hcv7, hrg, hx7, hgc1, hgc2⟩ := conv_bytes2 HGB.out (by omega) w5
    have HG := Lib.hid hrg
    have X7 := Lib.hid (Ext.trans _ _ _ X4.out (Ext.trans _ _ _ hx5 hx7))
    have HFL := Lib.hid hfl5
    clear hrg hx7 hx5 HS X4 hfl5
    obtain ⟨G0, hG0⟩ : ∃ G0 : List Int, G0 = [] := ⟨_, rfl⟩
    have hx8 : Ext w7 (w7.alloc (.cells #[] 5)) := (Below.refl _ _).alloc (Nat.le_refl _) _
    have hrow8 := Row.lit 5 .u8 [] w7 (by simp)
    obtain ⟨v9, w9, S9, hrun9, hrow9, hst9⟩ := run_append (P := Try.prog) (w7.alloc (.cells #[] 5)) 22 22 5 .u8 1 Try.underlying22 Crc.info_u8 (by decide) (.slice (some ⟨w7.heap.size, 0, none⟩) 0 0) [] G _ (some ⟨w5.heap.size, 0, none⟩) cg hrow8 (hx8.reads HG.out) (by simp; omega)
    rw [List.nil_append] at hrow9
    obtain ⟨g, ct, e9, hSg, hg9⟩ := hrow9.form (by omega)
    subst e9
    have hg7 : w7.heap.size ≤ g := by
      rcases hst9.fresh g ((hSg g).2 rfl) with q | q
      · exact Nat.le_of_eq (show g = w7.heap.size from q).symm
      · exact Nat.le_trans hx8.size q
    have hct := hrow9.shape
    obtain ⟨_, _, ec, hct1, hct2⟩ := hct
    injection ec with ec1 ec2 ec3
    subst ec1 ec3
    clear ec2
    have X9 := Lib.hid (show Ext w w9 from Below.trans (Ext.trans _ _ _ X7.out hx8) (hst9.keep.below (Ext.trans _ _ _ X7.out hx8).size (fun x hx hz => by have hz' : x = w7.heap.size := hz; have := X7.out.size; omega)))
    have HG9 := Lib.hid ((hx8.reads HG.out).keep hst9.keep (fun a ha => by injection ha with ha; subst ha; intro hz; have hz' : w5.heap.size = w7.heap.size := hz; obtain ⟨_, _, eq, hq, _⟩ := HG.out 0 (by omega); injection eq with eq; injection eq with eq1 _ _; omega))
    have HROW9 := Lib.hid hrow9
    have HRUN9 := Lib.hid hrun9
    obtain ⟨p, hp, hpm⟩ : ∃ p : Nat, Int.tmod (an : Int) (G.length : Int) = (p : Int) ∧ p < G.length := ⟨an % G.length, by rw [Int.tmod_eq_emod_of_nonneg (by omega)]; rfl, Nat.mod_lt _ (by omega)⟩
    have hpl := nat_lt_of hpm
    have hpl2 : (p : Int) < (G.length : Int) := by omega
    have hgnz : ¬ (G.length : Int) = 0 := by omega
    have cp : w9.cell? ⟨g, p, none⟩ = some (.int .u8 (G.getD p 0)) := hrow9.cell hpm
    have fp := hrow9.free p
    obtain ⟨z, hz⟩ : ∃ z, G.getD p 0 = z := ⟨_, rfl⟩
    have hT := hrow9.set p (bits .xor .u8 z by_)
    obtain ⟨T, hTe⟩ : ∃ T, G.set p (bits .xor .u8 z by_) = T := ⟨_, rfl⟩
    have hTb : IsBytes T := by rw [← hTe]; exact set_bytes HGB.out p (xor_byte _ _)
    have hTl : T.length = G.length := by rw [← hTe, List.length_set]
    have hTr : rightB T = decide (by_ = 0) := by
      rw [← hTe, ← hz]
      exact changed_right HGB.out HGR.out hpm hby (by rw [hz, hTe]; exact hTb)
    have hT0 : by_ = 0 → T = G := fun h => by
      have hb := HGB.out z (by rw [← hz, List.getD_eq_getElem?_getD, List.getElem?_eq_getElem hpm]; exact List.getElem_mem hpm)
      rw [← hTe, h, xor_none hb, ← hz]
      rw [List.getD_eq_getElem?_getD, List.getElem?_eq_getElem hpm]
      simp
    rw [hz] at cp
    rw [hTe] at hT
    have HTROW := Lib.hid hT
    have HTB := Lib.hid hTb
    have HTL := Lib.hid hTl
    have HTR := Lib.hid hTr
    have HT0 := Lib.hid hT0
    clear hT hTb hTl hTr hT0 hTe hz
    have HSG := Lib.hid hSg
    clear hx8 hrow8 hrun9 hrow9 hst9 hSg hG0
    go_wp2_with (at_builtin; refine append_known _ rfl _ _ 22 rfl (.slice (some ⟨w7.heap.size, 0, none⟩) 0 0) (.slice (some ⟨w5.heap.size, 0, none⟩) G.length cg) (.slice (some ⟨g, 0, none⟩) G.length ct) w9 rfl rfl HRUN9.out ?_)
    have hst10 := HTROW.out.2
    have hrowT := HTROW.out.1
    have X10 := Lib.hid (show Ext w (w9.setCell ⟨g, p, none⟩ (.int .u8 (bits .xor .u8 z by_))) from Below.setCell X9.out (p := ⟨g, p, none⟩) (Nat.le_trans X7.out.size hg7) _)
    have HG10 := Lib.hid (HG9.out.keep (hst10.keep) (fun a ha => by injection ha with ha; subst ha; intro hz2; have hz' : w5.heap.size = g := (HSG.out _).1 hz2; obtain ⟨_, _, eq, hq, _⟩ := HG.out 0 (by omega); injection eq with eq; injection eq with eq1 _ _; omega))
    have HRT := Lib.hid (Frame.readsAny hrowT)
    clear hst10 hrowT cp fp HG9
    generalize w9.setCell ⟨g, p, none⟩ (.int .u8 (bits .xor .u8 z by_)) = w10 at X10 HG10 HRT ⊢
    obtain ⟨m4, hm4⟩ : ∃ m4, G.length - 4 = m4 := ⟨_, rfl⟩
    have hTt : (T.take m4).length = m4 := by rw [List.length_take, HTL.out]; omega
    have hTtb : IsBytes (T.take m4) := fun x hx => HTB.out x (List.mem_of_mem_take hx)
    have hs2 := summed_calls w10 (some ⟨g, 0, none⟩) ct (T.take m4) (HRT.out.take m4) hTtb (by omega)
    rw [str_app, hTt] at hs2
    have HS2 := Lib.hid (show Calls Try.prog 19 #[.slice (some ⟨g, 0, none⟩) m4 ct] w10 fun e w' => e = .returned (.string (strOfNums (sumd (T.take m4)))) ∧ Below w10.heap.size w10 w' from hs2)
    have hUb := sumd_bytes hTtb
    have hUl : (sumd (T.take m4)).length = m4 + 4 := by rw [sumd_len, hTt]
    generalize sumd (T.take m4) = U at HS2 hUb hUl
    have HUB := Lib.hid hUb
    have hUl2 : U.length ≤ 400000 := by omega
    rw [hm4]
    clear hs2 hTtb hTt hUb hUl hm4
    refine HS2.out.mono ?_
    rintro e w11 ⟨rfl, hx11⟩
    obtain ⟨cu, w12, hcv12, hru, hx12, hcu1, hcu2⟩ := conv_bytes2 HUB.out (by omega) w11
    have hx10 := Ext.trans _ _ _ hx11 hx12
    have X12 := Lib.hid (Ext.trans _ _ _ X10.out hx10)
    have HG12 := Lib.hid (hx10.reads HG10.out)
    have HT12 := Lib.hid (hx10.reads HRT.out)
    have HU12 := Lib.hid hru
    have HBS12 := Lib.hid (X12.out.reads HBS.out)
    have hVb := sumd_bytes HBB.out
    have hVl : (sumd bs).length = bs.length + 4 := sumd_len bs
    obtain ⟨V, hV⟩ : ∃ V, sumd bs = V := ⟨_, rfl⟩
    rw [hV] at hVb hVl
    have HVB := Lib.hid hVb
    have HVE := Lib.hid hV
    have hVl2 : V.length ≤ 1000 := by omega
    have hpc : p ≤ cg := by omega
    have hgz1 : ((G.length : Int) == 0) = false := beq_eq_false_iff_ne.2 (by omega)
    have hgz2 : decide ((G.length : Int) = 0) = false := decide_eq_false (by omega)
    have hgz3 : ¬ G.length = 0 := by omega
    have hpG : p ≤ G.length := by omega
    clear hx11 hx12 hx10 hru HS2 HG10 HRT X10 HTROW X9 X7 hVb hVl hV
    go_wp2_with fail
    refine wp_region_rely (by kernel_rfl) Ext Ext.refl Ext.trans [[(0, none)], [(11, none)], [(12, none)], [(0, none)], [(68, some 3)], [(69, some 4)], [(9, none)], [(2, none)], [(72, some 7)], [(9, none)], [(74, some 9)], [(73, some 8), (75, some 10)], [(71, some 6), (76, some 11)], [(65, some 0), (66, some 1), (67, some 2), (70, some 5), (77, some 12)], [(78, some 13)], []] [some 65, some 66, some 67, some 68, some 69, some 70, some 71, some 72, some 73, some 74, some 75, some 76, some 77, some 78, some 79, some 80] (by kernel_rfl) (by kernel_rfl) ?_
    apply rely_const; case h => (intro wr hR a h0 K hK; go_wp2_with fail; exact Ext.refl _)
    apply rely_const; case h => (intro wr hR a h11 K hK; go_wp2_with fail; exact Ext.refl _)
    apply rely_const; case h => (intro wr hR a h12 K hK; go_wp2_with fail; exact Ext.refl _)
    apply rely_const; case h => (intro wr hR a h0 K hK; go_wp2_with fail; exact Ext.refl _)
    apply rely_const
    case h =>
      intro wr hR a h68 K hK
      have hs := summed_calls wr A0 c0 bs (hR.undrew.reads HBS12.out) HBB.out (by omega)
      rw [str_app] at hs
      have HS := Lib.hid (show Calls Try.prog 19 #[.slice A0 bs.length c0] wr fun e w' => e = .returned (.string (strOfNums V)) ∧ Below wr.heap.size wr w' from by rw [← HVE.out]; exact hs)
      clear hs
      go_wp2_with fail
      refine (HS.out).mono ?_
      rintro e w2 ⟨rfl, hb⟩
      go_wp2_with fail
      exact hb
    refine rely_rel (fun v wr => ∃ A c, v = .slice A V.length c ∧ Reads wr .u8 A V ∧ V.length ≤ c ∧ c ≤ 9223372036854775807) (fun v w w' ⟨A1, c1, e, h, h1⟩ x => ⟨A1, c1, e, x.reads h, h1⟩) ?h5 ?_
    case h5 =>
      intro wr hR a h69 K hK
      obtain ⟨cx, wv, hcv, hrdv, hxv, hcp⟩ := conv_bytes2 HVB.out (by omega) wr
      have HK := Lib.hid (hK _ _ hxv ⟨_, _, rfl, hrdv, hcp⟩)
      clear hK hrdv hxv hcp
      go_wp2_with fail
      exact HK.out
    apply rely_const; case h => (intro wr hR a h9 K hK; go_wp2_with fail; exact Ext.refl _)
    apply rely_const; case h => (intro wr hR a h2 K hK; go_wp2_with fail; exact Ext.refl _)
    apply rely_const; case h => (intro wr hR a h72 K hK; go_wp2_with fail; exact Ext.refl _)
    apply rely_const; case h => (intro wr hR a h9 K hK; go_wp2_with fail; exact Ext.refl _)
    apply rely_const; case h => (intro wr hR a h74 K hK; go_wp2_with fail; exact Ext.refl _)
    apply rely_const; case h => (intro wr hR a h73 h75 K hK; go_wp2_with fail; exact Ext.refl _)
    apply rely_const; case h => (intro wr hR a h71 h76 K hK; go_wp2_with fail; exact Ext.refl _)
    refine rely_rel (fun v wr => ∃ q, v = .slice (some ⟨q, 0, none⟩) 5 5 ∧ ∀ j : Nat, j < 5 → ∃ (A : Option Addr) (L : List Int) (c : Nat), wr.cell? ⟨q, j, none⟩ = some (.slice A L.length c) ∧ Reads wr .u8 A L ∧ IsBytes L ∧ L.length ≤ 1000000 ∧ L.length ≤ c ∧ c ≤ 9223372036854775807) (fun v w w' ⟨q, e, h⟩ x => ⟨q, e, fun j hj => by
      obtain ⟨A, L, c, h1, h2, h3⟩ := h j hj
      exact ⟨A, L, c, x.cell h1, x.reads h2, h3⟩⟩) ?h13 ?_
    case h13 =>
      rintro wr hR a h65 h66 h67 v h70 ⟨A7, c7, rfl, hr7, hc71, hc72⟩ h77 K hK
      have hxq : Ext wr (wr.alloc (.cells #[.slice A0 bs.length c0, .slice (some ⟨g, 0, none⟩) G.length ct, .slice (some ⟨w11.heap.size, 0, none⟩) U.length cu, .slice A7 V.length c7, .slice (some ⟨w5.heap.size, 0, none⟩) p cg] 22)) := (Below.refl _ _).alloc (Nat.le_refl _) _
      have hbq := heap_alloc_new wr (.cells #[.slice A0 bs.length c0, .slice (some ⟨g, 0, none⟩) G.length ct, .slice (some ⟨w11.heap.size, 0, none⟩) U.length cu, .slice A7 V.length c7, .slice (some ⟨w5.heap.size, 0, none⟩) p cg] 22)
      have hce := fun j => Blk.cell (S := fun q => q = wr.heap.size) ⟨hbq, fun _ => Iff.rfl⟩ j
      have hE := Ext.trans _ _ _ hR.undrew hxq
      refine build_known5 wr rfl _ _ _ _ _ _ _ rfl (.slice A0 bs.length c0) (.slice (some ⟨g, 0, none⟩) G.length ct) (.slice (some ⟨w11.heap.size, 0, none⟩) U.length cu) (.slice A7 V.length c7) (.slice (some ⟨w5.heap.size, 0, none⟩) p cg) (.slice (some ⟨wr.heap.size, 0, none⟩) 5 5) _ h65 h66 h67 h70 h77 (show _ = Result.ok _ (wr.alloc (.cells #[.slice A0 bs.length c0, .slice (some ⟨g, 0, none⟩) G.length ct, .slice (some ⟨w11.heap.size, 0, none⟩) U.length cu, .slice A7 V.length c7, .slice (some ⟨w5.heap.size, 0, none⟩) p cg] 22)) from by simp [Instr.buildSlice, go_sem]) ?_
      have HK := Lib.hid (hK _ _ hxq ⟨wr.heap.size, rfl, fun j hj => by
        match j, hj with
        | 0, _ => exact ⟨A0, bs, c0, hce 0, hE.reads HBS12.out, HBB.out, by omega, hbc1, hbc2⟩
        | 1, _ => exact ⟨some ⟨g, 0, none⟩, T, ct, by rw [HTL.out]; exact hce 1, hE.reads HT12.out, HTB.out, by rw [HTL.out]; omega, by rw [HTL.out]; exact hct1, hct2⟩
        | 2, _ => exact ⟨_, U, cu, hce 2, hE.reads HU12.out, HUB.out, by omega, hcu1, hcu2⟩
        | 3, _ => exact ⟨A7, V, c7, hce 3, hxq.reads hr7, HVB.out, by omega, hc71, hc72⟩
        | 4, _ => exact ⟨(some ⟨w5.heap.size, 0, none⟩), G.take p, cg, by rw [List.length_take, Nat.min_eq_left hpG]; exact hce 4, (hE.reads HG12.out).take p, fun x hx => HGB.out x (List.mem_of_mem_take hx), by rw [List.length_take]; omega, by rw [List.length_take]; omega, hgc2⟩⟩)
      clear hK hce hbq hxq hE hr7
      go_wp2_with fail
      exact HK.out
    apply rely_const; case h => (rintro wr hR a v h78 ⟨q, rfl, _⟩ K hK; go_wp2_with fail; exact Ext.refl _)
    apply rely_const; case h => (intro wr hR a K hK; go_wp2_with fail; exact Ext.refl _)
    refine rely_end ?_
    intro w13 hR
    simp only [ends, Act.put, List.setIfInBounds_toArray, List.set_cons_zero, List.set_cons_succ]
    rintro v70 - v78 ⟨q5, rfl, hel⟩
    have X13 := Lib.hid (Ext.trans _ _ _ X12.out hR.undrew)
    have HT13 := Lib.hid (hR.undrew.reads HT12.out)
    have HEL := Lib.hid hel
    clear hR hel HBS12 HT12 HU12 HG12 X12
    go_wp2_with fail
    go_loopw [80] (fun v wq => ∃ j : Nat, j ≤ 5 ∧ v = .int .i64 j ∧ Ext w13 wq) (fun v _ => 5 - (intOf v).toNat)
    case atStart => exact ⟨0, by omega, rfl, Ext.refl _⟩
    case round =>
      obtain ⟨j, hj, rfl, hxr⟩ := hrel
      have XR := Lib.hid hxr
      clear hxr
      by_cases hj2 : j < 5
      · have hj4 : decide ((j : Int) < 5) = true := by simp; omega
        obtain ⟨A, X, cX, cx, hrd, hLb, hLl, hLc, hcm⟩ := HEL.out j hj2
        replace cx := XR.out.cell cx
        have HRL := Lib.hid (XR.out.reads hrd)
        have HLB := Lib.hid hLb
        clear hrd hLb
        go_wp2_with fail
        refine (take_c A cX X wr HRL.out HLB.out hLl hLc hcm).mono ?_
        rintro e w8 ⟨hx8, ht⟩
        cases htk : takeX X with
        | error x =>
          rw [htk] at ht
          obtain rfl := ht
          have XT := Lib.hid (Ext.trans _ _ _ XR.out hx8)
          have hx0 := takeX_err htk
          have hx0b : (x != 0) = true := by simpa using hx0
          clear hx8 htk
          go_wp2_with fail
          go_roundw
          case rel => exact ⟨j + 1, by omega, by go_num, XT.out⟩
          case measure => simp [intOf]; omega
        | ok l =>
          rw [htk] at ht
          obtain ⟨A9, c9, rfl, hrd9, hl9, hc9⟩ := ht
          obtain ⟨hX, hck, hnmb⟩ := take_back HLB.out htk
          have XT := Lib.hid (Ext.trans _ _ _ XR.out hx8)
          have hp := put_c A9 c9 l w8 hrd9 hck hnmb
          rw [← hX] at hp
          have HP := Lib.hid hp
          have HRL9 := Lib.hid (hx8.reads HRL.out)
          clear hp hx8 htk hrd9 hX hck hnmb
          go_wp2_with fail
          refine HP.out.mono ?_
          rintro e wa ⟨A10, c10, rfl, hrd10, _, _, hx10⟩
          have cv1 : (convert 22 9 (.slice A10 X.length c10)).run Try.prog wa = .ok (.string (strOfNums X)) wa := hrd10.string (P := Try.prog) Try.underlying22 Try.underlying5 Try.underlying9 c10
          have cv2 : (convert 22 9 (.slice A X.length cX)).run Try.prog wa = .ok (.string (strOfNums X)) wa := (hx10.reads HRL9.out).string (P := Try.prog) Try.underlying22 Try.underlying5 Try.underlying9 cX
          have X10 := Lib.hid (Ext.trans _ _ _ XT.out hx10)
          clear hx10 hrd10 HP
          go_wp2_with fail
          go_roundw
          case rel => exact ⟨j + 1, by omega, by go_num, X10.out⟩
          case measure => simp [intOf]; omega
      · obtain rfl : j = 5 := by omega
        have hrt := XR.out.reads HT13.out
        have htc := take_c (some ⟨g, 0, none⟩) ct T wr hrt HTB.out (by rw [HTL.out]; omega) (by rw [HTL.out]; exact hct1) hct2
        rw [HTL.out] at htc
        have HTC := Lib.hid htc
        clear htc hrt
        go_wp2_with fail
        refine HTC.out.mono ?_
        rintro e wz ⟨hxz, ht⟩
        have XZ := Lib.hid (Ext.trans _ _ _ X13.out (Ext.trans _ _ _ XR.out hxz))
        clear hxz HTC
        by_cases hb0 : by_ = 0
        · have hTG := HT0.out hb0
          obtain ⟨LG, hLG⟩ := HGT.out
          rw [hTG, hLG] at ht
          obtain ⟨A9, c9, rfl, _⟩ := ht
          have hbq : (by_ == 0) = true := by simpa using hb0
          clear hTG hLG hb0
          go_wp2_with fail
          go_ret
          exact ⟨by simp [hbq], XZ.out⟩
        · have hTf : takeX T = .error 10 := by
            have hr := HTR.out
            rw [decide_eq_false hb0] at hr
            unfold takeX
            rw [if_neg (by rw [HTL.out]; omega), if_pos hr]
          rw [hTf] at ht
          obtain rfl := ht
          have hbq : (by_ == 0) = false := by simpa using hb0
          clear hTf
          go_wp2_with fail
          go_ret
          exact ⟨by simp [hbq], XZ.out⟩
end Go.Proofs.Ytfpeeilenocaoaa.Idx
