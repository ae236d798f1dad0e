/- P15.1: any hashes, any numbers of them: the counts; how often one was seen at most: at every input, without conditions. -/
import Derived.Test.YthemincohmgihaaCmsAddC
import Derived.Test.YthemincohmgihaaRelyC
import Derived.Deep.OwnRows
namespace Go.Proofs.Ythemincohmgihaa.PCmsMerges
open Go Go.RowKit Go.Proofs.YthemincohmgihaaW.PrintWords Go.Proofs.Ythemincohmgihaa.Own Go.Proofs.Ythemincohmgihaa.Rely
attribute [local go_sem] min_ints max_ints

set_option maxHeartbeats 16000000 in
set_option maxRecDepth 20000 in
theorem adds_wf (rows cols : Int) (A : Option Addr) (c : Nat) (l : List S54) (h : Int) (w : World) (hrows : (Lit.int .u8 rows).wf = true) (hcols : (Lit.int .u8 cols).wf = true) (ha : ArgS w A c l) (hh : (Lit.int .u64 h).wf = true) :
    Calls Try.prog 11 #[.int .u8 rows, .int .u8 cols, .slice A l.length c, .int .u64 h] w fun e w' => e = .returned (.bool true) ∧ Below w.heap.size w w' := by
  have qr := wf_u8 hrows
  have qc := wf_u8 hcols
  have qh := wf_u64 hh
  have HA := Lib.hid ha.reads
  have HOK := Lib.hid ha.okay
  have HHS := Lib.hid ha.hash
  have hac := ha.cap
  clear hrows hcols ha hh
  go_enter Try.func11, Try.ntmps11
  go_wp2_with fail
  refine (herbariumlaw15_Awake.calls true w awake_f).mono ?_
  rintro e w1 ⟨rfl, hd1⟩
  have X1 := Lib.hid (show Ext w w1 from hd1.below)
  clear hd1
  by_cases hl : 40 < l.length
  · have d1 : decide ((40 : Int) < (l.length : Int)) = true := by rw [decide_eq_true_iff]; omega
    go_wp2_with fail
    go_ret
    exact ⟨rfl, X1.out⟩
  have d1 : decide ((40 : Int) < (l.length : Int)) = false := by rw [decide_eq_false_iff_not]; omega
  have HCMS := Lib.hid (cms_c qr.1 qc.1 HOK.out (by omega) w1 A c (C_ext HA.out X1.out) hac)
  go_wp2_with fail
  refine HCMS.out.mono ?_
  rintro e w2 ⟨As, cs, rfl, hcs, hCs, hx2⟩
  have R1 := rows_1 rows
  have R8 := rows_8 rows
  have C1 := cols_1 cols
  have C256 := cols_256 cols
  obtain ⟨R, hR⟩ : ∃ R, rowsOf rows = R := ⟨_, rfl⟩
  obtain ⟨C, hC⟩ : ∃ C, colsOf cols = C := ⟨_, rfl⟩
  rw [hR] at R1 R8 hcs hCs ⊢
  rw [hC] at C1 C256 hcs hCs ⊢
  clear hR hC qr qc HCMS
  have C1i : (1 : Int) ≤ (C : Int) := Int.ofNat_le.2 C1
  have C256i : (C : Int) ≤ 256 := Int.ofNat_le.2 C256
  have G := Lib.hid (good_sketch R1 R8 C1 C256 HOK.out)
  have hlen := G.out.len
  have hrc := G.out.rc
  have hrc1 : 1 ≤ R * C := Nat.mul_pos R1 C1
  rw [hlen] at hcs hCs ⊢
  have HCS := Lib.hid (show Kd.C (Kd.int .u32) w2 As (sketch R C l).length (sketch R C l) by rw [hlen]; exact hCs)
  have hww : wrap64 ((R : Int) * (C : Int)) = ((R * C : Nat) : Int) := by rw [← Int.natCast_mul]; unfold wrap64; omega
  obtain ⟨n, hn⟩ : ∃ n, R * C = n := ⟨_, rfl⟩
  rw [hn] at hlen hrc hrc1 hcs hww ⊢
  have HN := Lib.hid hn
  have X2 := Lib.hid (Ext.trans _ _ _ X1.out hx2)
  clear hn hCs hx2 X1
  obtain ⟨w3, hw3⟩ : ∃ w3, w2.alloc (.cells #[.int .i64 R, .int .i64 C, .slice As n cs] 49) = w3 := ⟨_, rfl⟩
  have hx3 : Ext w2 w3 := by rw [← hw3]; exact ext_new _ _
  obtain ⟨g9, hg9⟩ : ∃ g, w2.heap.size = g := ⟨_, rfl⟩
  have B9 := Lib.hid (show Box3 w3 g9 (.int .i64 R) (.int .i64 C) (.slice As n cs) by rw [← hw3, ← hg9]; exact box3_new w2 _ _ _ 49)
  have X3 := Lib.hid (Ext.trans _ _ _ X2.out hx3)
  have HC3 := Lib.hid (C_ext HCS.out hx3)
  have HA3 := Lib.hid (C_ext HA.out X3.out)
  obtain ⟨b0, b1, b2⟩ := B9.out
  have hmk := run_make_row' (P := Try.prog) 51 24 (.int .u64 0) 8 Try.underlying51 info_u64 rfl .i64 .i64 n (by omega) (by omega) w3
  obtain ⟨w4, hw4⟩ : ∃ w4, w3.alloc (.cells (madeCells #[.int .u64 0] n) 24) = w4 := ⟨_, rfl⟩
  have hrow4 := Row.made 24 .u64 n w3 (by omega)
  rw [hw4] at hmk hrow4
  obtain ⟨gw, hgw⟩ : ∃ g, w3.heap.size = g := ⟨_, rfl⟩
  rw [hgw] at hmk hrow4
  have hmm := @run_makeMap Try.prog
  obtain ⟨w5, hw5⟩ : ∃ w5, w4.alloc (.map #[] 0) = w5 := ⟨_, rfl⟩
  obtain ⟨b, hb⟩ : ∃ b, w4.heap.size = b := ⟨_, rfl⟩
  have hown5 : Own64 w5 b 0 (.map []) := by rw [← hw5, ← hb]; exact World.ownsMap_made _ _ _ _
  have hgb : gw < b := by rw [← hb, ← hw4, ← hgw]; simp
  have hx34 : Ext w3 w4 := by rw [← hw4]; exact ext_new _ _
  have hx45 : Ext w4 w5 := by rw [← hw5]; exact ext_new _ _
  have hb3 : w3.heap.size ≤ gw := by omega
  have HROW0 := Lib.hid (Ext.keep (Lcl.row _ _ _ _) hx45 hrow4)
  have HOWN0 := Lib.hid hown5
  have HX0 := Lib.hid (Ext.trans _ _ _ hx34 hx45)
  clear hx3 HA HCS hx34 hx45 hown5 hrow4 X2
  go_wp2_with fail
  clear hmk hmm hw3 hw4 hw5 hg9 hgw hb b0 b1 b2 hww
  rw [← HN.out, ← sketch_nil, HN.out] at HROW0
  go_loopw [40] (fun v wq => ∃ (k : Nat) (D : D1), k ≤ l.length ∧ v = .int .i64 k ∧ Own64 wq b k D ∧ MapT D (l.take k) ∧ Row 24 .u64 (.slice (some ⟨gw, 0, none⟩) n n) (sketch R C (l.take k)) wq (fun q => q = gw) ∧ Ext w3 wq) (fun v _ => l.length - (intOf v).toNat)
  case atStart => exact ⟨0, .map [], by omega, rfl, HOWN0.out, MapT.nil, HROW0.out, HX0.out⟩
  case round =>
    obtain ⟨k, D, hk, rfl, hown, hmt, hrow, hxq⟩ := hrel
    have XQ := Lib.hid hxq
    have HMT := Lib.hid hmt
    clear hxq hmt HOWN0 HROW0 HX0
    by_cases hk2 : k < l.length
    · have hk4 : (k : Int) < (l.length : Int) := by omega
      obtain ⟨bb, oo, rfl, e0, e1⟩ := seen_at (C_ext HA3.out XQ.out) hk2
      have hmem : l[k] ∈ l := List.getElem_mem hk2
      have hok := HOK.out _ hmem
      have hs0 := HHS.out _ hmem
      have htk : l.take (k + 1) = l.take k ++ [l[k]] := List.take_succ_eq_append_getElem hk2
      have hokt : Okay (l.take k) := fun x hx => HOK.out x (List.mem_of_mem_take hx)
      have HPUT := Lib.hid (fun (m : Int) (hm : m = tot (l[k]).f0 (l.take k) + (l[k]).f1) => HMT.out.put l[k] hm)
      have HSN := Lib.hid (sketch_snoc (R := R) (C := C) hokt l[k] hok.1)
      have HGK := Lib.hid (good_sketch R1 R8 C1 C256 hokt)
      have htot := tot_le (l[k]).f0 hokt
      have hlk9 : (l.take k).length ≤ 40 := by rw [List.length_take]; omega
      rw [← htk] at HPUT HSN
      obtain ⟨s, hs⟩ : ∃ s, l[k] = s := ⟨_, rfl⟩
      simp only [hs] at e0 e1 hok hs0 HPUT HSN htot
      obtain ⟨s0, hs0e⟩ : ∃ s0, s.f0 = s0 := ⟨_, rfl⟩
      obtain ⟨s1, hs1e⟩ : ∃ s1, s.f1 = s1 := ⟨_, rfl⟩
      simp only [hs0e, hs1e] at e0 e1 hok hs0 HPUT HSN htot
      have hlook := fun w' (x : Ext wr w') => look64 (owns_ext hown x) HMT.out hs0
      obtain ⟨tt, htt⟩ : ∃ tt, tot s0 (l.take k) = tt := ⟨_, rfl⟩
      rw [htt] at HPUT htot hlook
      clear hs hs0e hs1e htt htk hmem hokt HMT
      have hsum : (tt + s1) % 18446744073709551616 = tt + s1 := by omega
      have hsumw : (Lit.int .u64 (tt + s1)).wf = true := wf64 ⟨by omega, by omega⟩
      obtain ⟨ws, hws⟩ : ∃ ws, wr.alloc (.cells #[.int .u64 s0, .int .u32 s1] 54) = ws := ⟨_, rfl⟩
      have hxs : Ext wr ws := by rw [← hws]; exact ext_new _ _
      obtain ⟨g13, hg13⟩ : ∃ g, wr.heap.size = g := ⟨_, rfl⟩
      have hnb := heap_alloc_new wr (.cells #[.int .u64 s0, .int .u32 s1] 54)
      rw [hws, hg13] at hnb
      have y0 := Blk.cell (S := fun q => q = g13) ⟨hnb, fun _ => Iff.rfl⟩ 0
      have y1 := Blk.cell (S := fun q => q = g13) ⟨hnb, fun _ => Iff.rfl⟩ 1
      simp only [List.getElem?_toArray, List.getElem?_cons_zero, List.getElem?_cons_succ] at y0 y1
      have hlk := hlook ws hxs
      have hown2 := owns_ext hown hxs
      have hrow2 := Ext.keep (Lcl.row _ _ _ _) hxs hrow
      have hbg : b < g13 := by rw [← hg13]; exact hown.lt
      have XS := Lib.hid (Ext.trans _ _ _ XQ.out hxs)
      have HR2 := Lib.hid hrow2
      clear hlook hown hrow hrow2 hnb hxs XQ
      go_wp2_with (at_mapUpdate; refine wpList_mapUpdate_own _ rfl _ _ _ 52 rfl 24 24 keyed64 Try.underlying52 _ b k D rfl hown2 (by unfold maxLen; omega) _ _ _ rfl rfl (key64 hs0) _ [] (plainElem_int Try.underlying24 hsumw) ?_; intro w7 hown7 hgrow7; have HO7 := Lib.hid hown7; have HK7 := Lib.hid (show Keep (fun q => q = b) ws w7 from ⟨hgrow7.os, hgrow7.tape, hgrow7.output, hgrow7.size, fun q hq hne => hgrow7.block q hq (fun e => hne (by injection e))⟩); have X7 := Lib.hid (ext_grown XS.out hgrow7 (by omega)); have z0 := HK7.out.cell y0 (show ¬ g13 = b by omega); have z1 := HK7.out.cell y1 (show ¬ g13 = b by omega); obtain ⟨k0, k1, k2⟩ := B9.out.ext X7.out; clear hown7 hgrow7)
      have hrow7 := (Lcl.row _ _ _ _).stay HR2.out HK7.out (fun x hx hz => by have h1 : x = gw := hx; have h2 : x = b := hz; omega)
      have HR7 := Lib.hid hrow7
      clear hrow7 HR2 HK7 y0 y1 hown2 hlk k0 k1 k2 XS hws hg13
      go_loopw [54] (fun v wq => ∃ r : Nat, r ≤ R ∧ v = .int .i64 r ∧ Own64 wq b (k + 1) (D.put (.int .u64 s0) (.lit (.int .u64 (tt + s1)))) ∧ Row 24 .u64 (.slice (some ⟨gw, 0, none⟩) n n) (addTo C s0 s1 r (sketch R C (l.take k))) wq (fun q => q = gw) ∧ wq.cell? ⟨g13, 0, none⟩ = some (.int .u64 s0) ∧ wq.cell? ⟨g13, 1, none⟩ = some (.int .u32 s1) ∧ Ext w3 wq) (fun v _ => R - (intOf v).toNat)
      case atStart => exact ⟨0, by omega, rfl, HO7.out, by rw [addTo_zero]; exact HR7.out, z0, z1, X7.out⟩
      case round =>
        obtain ⟨r, hr, rfl, hown, hrow, y0, y1, hxr⟩ := hrel
        have XR := Lib.hid hxr
        have HOR := Lib.hid hown
        have HRR := Lib.hid hrow
        clear hxr hown hrow HO7 HR7 z0 z1 X7
        by_cases hr2 : r < R
        · have hr4 : (r : Int) < (R : Int) := by omega
          have hr8 : r ≤ 8 := by omega
          have hpw2 := rc_wrap (C := C) hr HN.out hrc
          obtain ⟨rc, hrcE⟩ : ∃ rc, r * C = rc := ⟨_, rfl⟩
          obtain ⟨p, hpl, hpC, hpL, hpw⟩ := place_nat HGK.out s0 hr2
          clear hpw
          have HPF := Lib.hid (place_f (C := (C : Int)) R (sketch R C l) s0 r C1i C256i)
          have hstep := addTo_step HGK.out s0 s1 hr2 hpl hpC
          have hglen : (addTo C s0 s1 r (sketch R C (l.take k))).length = n := by rw [addTo_length, HGK.out.len, HN.out]
          rw [HGK.out.len, HN.out] at hpL
          rw [hpl] at HPF
          have HST := Lib.hid hstep
          have HPL := Lib.hid hpl
          clear hpl hstep
          have hpn : (p : Int) ≤ 256 := Int.ofNat_le.2 (Nat.le_trans (Nat.le_of_lt hpC) C256)
          have BX9 := Lib.hid (B9.out.ext XR.out)
          have HCX := Lib.hid (C_ext HC3.out XR.out)
          rw [hrcE] at hpw2 HST hpL
          obtain ⟨a, hae⟩ : ∃ a, rc + p = a := ⟨_, rfl⟩
          have hsa : (rc : Int) + (p : Int) = (a : Int) := by rw [← Int.natCast_add, hae]
          rw [hae] at hpL HST
          have hcell := (HRR.out).cell (i := a) (by rw [hglen]; exact hpL)
          have hgt := (good_to HGK.out s0 s1 hok.1 r).range (a : Int)
          obtain ⟨W, hW⟩ : ∃ W, addTo C s0 s1 r (sketch R C (l.take k)) = W := ⟨_, rfl⟩
          rw [hW] at hcell hgt HST HRR hglen
          have hrd : W.getD a 0 = rd W (a : Int) := rfl
          rw [hrd] at hcell
          obtain ⟨x, hx⟩ : ∃ x, rd W (a : Int) = x := ⟨_, rfl⟩
          rw [hx] at hcell hgt HST
          have hmin := min_pls hgt hok
          have hale : (a : Int) < (n : Int) := Int.ofNat_lt.2 hpL
          clear hx hrd hW hae hrcE
          go_wp2_with fail
          refine wp_region_next (by kernel_rfl) ?_
          refine next_win 0 12 Ext Ext 999 0 (fun _ _ h => h) Ext.refl Ext.trans Ext.refl Ext.trans [[(9, none)], [(13, none)], [(58, some 1)], [(14, none)], [(57, some 0), (59, some 2), (60, some 3)], [(13, none)], [(62, some 5)], [(14, none)], [(9, none)], [(65, some 8)], [(63, some 6), (64, some 7), (66, some 9)], [(61, some 4), (67, some 10)]] [some 57, some 58, some 59, some 60, some 61, some 62, some 63, some 64, some 65, some 66, some 67, some 68] (by kernel_rfl) (by kernel_rfl) (by kernel_rfl) (by kernel_rfl) ?_
          intro Nx hNx
          -- 0: slot 57 := Op.load 49 (t9)
          apply relyD_const (by decide) (by decide); case h => (intro wr hR a' h9 K hK; obtain ⟨k0, k1, k2⟩ := BX9.out.ext hR.undrew; go_wp2_with fail; exact Ext.refl _)
          -- 1: slot 58 := Op.fieldAddr 54 (t13) 0
          apply relyD_const (by decide) (by decide); case h => (intro wr hR a' h13 K hK; go_wp2_with fail; exact Ext.refl _)
          -- 2: slot 59 := Op.load 24 (t58)
          apply relyD_const (by decide) (by decide); case h => (intro wr hR a' h58 K hK; have k3 := hR.undrew.cell y0; go_wp2_with fail; exact Ext.refl _)
          -- 3: slot 60 := Op.move (t14)
          apply relyD_const (by decide) (by decide); case h => (intro wr hR a' h14 K hK; go_wp2_with fail; exact Ext.refl _)
          -- 4: slot 61 := Op.call { callee := Callee.value (Operand.func 29), args := #[t57, t59, t60], argTypes := #[49, 24, 3] }
          refine relyD_const (by decide) (by decide) (.int .i64 p) ?h4 ?_
          case h4 =>
            intro wr9 hR a' h57 h59 h60 K hK
            have HC1 := Lib.hid (cms_Cms_Place.calls (R : Int) (C : Int) As cs (sketch R C l) s0 (r : Int) (p : Int) wr9 (C_ext HCX.out hR.undrew) (by rw [hlen]; exact hcs) HPF.out)
            have HC0 := HC1.out
            rw [hlen] at HC0
            have HC1 := Lib.hid HC0
            clear HC0
            go_wp2_with fail
            refine HC1.out.mono ?_
            rintro e w29 ⟨rfl, hb⟩
            go_wp2_with fail
            exact hb
          -- 5: slot 62 := Op.fieldAddr 54 (t13) 0
          apply relyD_const (by decide) (by decide); case h => (intro wr hR a' h13 K hK; go_wp2_with fail; exact Ext.refl _)
          -- 6: slot 63 := Op.load 24 (t62)
          apply relyD_const (by decide) (by decide); case h => (intro wr hR a' h62 K hK; have k3 := hR.undrew.cell y0; go_wp2_with fail; exact Ext.refl _)
          -- 7: slot 64 := Op.move (t14)
          apply relyD_const (by decide) (by decide); case h => (intro wr hR a' h14 K hK; go_wp2_with fail; exact Ext.refl _)
          -- 8: slot 65 := Op.fieldAddr 49 (t9) 1
          apply relyD_const (by decide) (by decide); case h => (intro wr hR a' h9 K hK; go_wp2_with fail; exact Ext.refl _)
          -- 9: slot 66 := Op.load 3 (t65)
          apply relyD_const (by decide) (by decide); case h => (intro wr hR a' h65 K hK; obtain ⟨k0, k1, k2⟩ := BX9.out.ext hR.undrew; go_wp2_with fail; exact Ext.refl _)
          -- 10: slot 67 := Op.call { callee := Callee.value (Operand.func 30), args := #[t63, t64, t66], argTypes := #[24, 3, 3] }
          refine relyD_const (by decide) (by decide) (.int .i64 p) ?h10 ?_
          case h10 =>
            intro wr9 hR a' h63 h64 h66 K hK
            have HC1 := Lib.hid (lawplace_c s0 r C wr9 hs0.1 hs0.2 C1 C256 hr8)
            have HC0 := HC1.out
            rw [HPL.out] at HC0
            have HC1 := Lib.hid HC0
            clear HC0
            go_wp2_with fail
            refine HC1.out.mono ?_
            rintro e w29 ⟨rfl, hb⟩
            go_wp2_with fail
            exact hb
          -- 11: slot 68 := Op.binOp BinOp.neq 3 (t61) (t67) 3
          apply relyD_const (by decide) (by decide); case h => (intro wr hR a' h61 h67 K hK; have hnn : ((p : Int) != (p : Int)) = false := (by simp); go_wp2_with fail; exact Ext.refl _)
          refine relyD_end ?_
          intro wt hR
          simp only [had, List.take_succ_cons, List.take_zero, List.map_cons, List.map_nil, List.cons_append, List.nil_append, ends, Act.put, List.setIfInBounds_toArray, List.set_cons_zero, List.set_cons_succ]
          refine hNx _ _ ?_
          refine next_done rfl ?_
          replace BX9 := Lib.hid (BX9.out.ext hR.undrew)
          replace HCX := Lib.hid (C_ext HCX.out hR.undrew)
          replace HRR := Lib.hid (Ext.keep (Lcl.row _ _ _ _) hR.undrew HRR.out)
          replace HOR := Lib.hid (owns_ext HOR.out hR.undrew)
          replace XR := Lib.hid (Ext.trans _ _ _ XR.out hR.undrew)
          replace y0 := hR.undrew.cell y0
          replace y1 := hR.undrew.cell y1
          replace hcell := hR.undrew.cell hcell
          clear hR hNx
          try simp only [Act.put, List.setIfInBounds_toArray, List.set_cons_zero, List.set_cons_succ]
          go_wp2_with fail
          refine wp_region_next (by kernel_rfl) ?_
          refine next_win 0 12 Ext Ext 999 0 (fun _ _ h => h) Ext.refl Ext.trans Ext.refl Ext.trans [[(14, none)], [(9, none)], [(70, some 1)], [(69, some 0), (71, some 2)], [(13, none)], [(73, some 4)], [(14, none)], [(9, none)], [(76, some 7)], [(74, some 5), (75, some 6), (77, some 8)], [(72, some 3), (78, some 9)], [(79, some 10)]] [some 69, some 70, some 71, some 72, some 73, some 74, some 75, some 76, some 77, some 78, some 79, some 15] (by kernel_rfl) (by kernel_rfl) (by kernel_rfl) (by kernel_rfl) ?_
          intro Nx hNx
          -- 0: slot 69 := Op.move (t14)
          apply relyD_const (by decide) (by decide); case h => (intro wr hR a' h14 K hK; go_wp2_with fail; exact Ext.refl _)
          -- 1: slot 70 := Op.fieldAddr 49 (t9) 1
          apply relyD_const (by decide) (by decide); case h => (intro wr hR a' h9 K hK; go_wp2_with fail; exact Ext.refl _)
          -- 2: slot 71 := Op.load 3 (t70)
          apply relyD_const (by decide) (by decide); case h => (intro wr hR a' h70 K hK; obtain ⟨k0, k1, k2⟩ := BX9.out.ext hR.undrew; go_wp2_with fail; exact Ext.refl _)
          -- 3: slot 72 := Op.binOp BinOp.mul 3 (t69) (t71) 3
          apply relyD_const (by decide) (by decide); case h => (intro wr hR a' h69 h71 K hK; go_wp2_with fail; exact Ext.refl _)
          -- 4: slot 73 := Op.fieldAddr 54 (t13) 0
          apply relyD_const (by decide) (by decide); case h => (intro wr hR a' h13 K hK; go_wp2_with fail; exact Ext.refl _)
          -- 5: slot 74 := Op.load 24 (t73)
          apply relyD_const (by decide) (by decide); case h => (intro wr hR a' h73 K hK; have k3 := hR.undrew.cell y0; go_wp2_with fail; exact Ext.refl _)
          -- 6: slot 75 := Op.move (t14)
          apply relyD_const (by decide) (by decide); case h => (intro wr hR a' h14 K hK; go_wp2_with fail; exact Ext.refl _)
          -- 7: slot 76 := Op.fieldAddr 49 (t9) 1
          apply relyD_const (by decide) (by decide); case h => (intro wr hR a' h9 K hK; go_wp2_with fail; exact Ext.refl _)
          -- 8: slot 77 := Op.load 3 (t76)
          apply relyD_const (by decide) (by decide); case h => (intro wr hR a' h76 K hK; obtain ⟨k0, k1, k2⟩ := BX9.out.ext hR.undrew; go_wp2_with fail; exact Ext.refl _)
          -- 9: slot 78 := Op.call { callee := Callee.value (Operand.func 30), args := #[t74, t75, t77], argTypes := #[24, 3, 3] }
          refine relyD_const (by decide) (by decide) (.int .i64 p) ?h9 ?_
          case h9 =>
            intro wr9 hR a' h74 h75 h77 K hK
            have HC1 := Lib.hid (lawplace_c s0 r C wr9 hs0.1 hs0.2 C1 C256 hr8)
            have HC0 := HC1.out
            rw [HPL.out] at HC0
            have HC1 := Lib.hid HC0
            clear HC0
            go_wp2_with fail
            refine HC1.out.mono ?_
            rintro e w29 ⟨rfl, hb⟩
            go_wp2_with fail
            exact hb
          -- 10: slot 79 := Op.binOp BinOp.add 3 (t72) (t78) 3
          apply relyD_const (by decide) (by decide); case h => (intro wr hR a' h72 h78 K hK; go_wp2_with fail; exact Ext.refl _)
          -- 11: slot 15 := Op.assign (t79)
          apply relyD_const (by decide) (by decide); case h => (intro wr hR a' h79 K hK; go_wp2_with fail; exact Ext.refl _)
          refine relyD_end ?_
          intro wt hR
          simp only [had, List.take_succ_cons, List.take_zero, List.map_cons, List.map_nil, List.cons_append, List.nil_append, ends, Act.put, List.setIfInBounds_toArray, List.set_cons_zero, List.set_cons_succ]
          refine hNx _ _ ?_
          refine next_done rfl ?_
          replace BX9 := Lib.hid (BX9.out.ext hR.undrew)
          replace HCX := Lib.hid (C_ext HCX.out hR.undrew)
          replace HRR := Lib.hid (Ext.keep (Lcl.row _ _ _ _) hR.undrew HRR.out)
          replace HOR := Lib.hid (owns_ext HOR.out hR.undrew)
          replace XR := Lib.hid (Ext.trans _ _ _ XR.out hR.undrew)
          replace y0 := hR.undrew.cell y0
          replace y1 := hR.undrew.cell y1
          replace hcell := hR.undrew.cell hcell
          clear hR hNx
          try simp only [Act.put, List.setIfInBounds_toArray, List.set_cons_zero, List.set_cons_succ]
          go_wp2_with fail
          refine wp_region_next (by kernel_rfl) ?_
          refine next_win 0 12 Ext Ext 999 0 (fun _ _ h => h) Ext.refl Ext.trans Ext.refl Ext.trans [[(10, none)], [(15, none)], [(10, none)], [(15, none)], [(82, some 2), (83, some 3)], [(84, some 4)], [(13, none)], [(86, some 6)], [(87, some 7)], [(85, some 5), (88, some 8)], [(89, some 9)], [(80, some 0), (81, some 1)]] [some 80, some 81, some 82, some 83, some 84, some 85, some 86, some 87, some 88, some 89, some 90, some 91] (by kernel_rfl) (by kernel_rfl) (by kernel_rfl) (by kernel_rfl) ?_
          intro Nx hNx
          -- 0: slot 80 := Op.move (t10)
          apply relyD_const (by decide) (by decide); case h => (intro wr hR a' h10 K hK; go_wp2_with fail; exact Ext.refl _)
          -- 1: slot 81 := Op.move (t15)
          apply relyD_const (by decide) (by decide); case h => (intro wr hR a' h15 K hK; go_wp2_with fail; exact Ext.refl _)
          -- 2: slot 82 := Op.move (t10)
          apply relyD_const (by decide) (by decide); case h => (intro wr hR a' h10 K hK; go_wp2_with fail; exact Ext.refl _)
          -- 3: slot 83 := Op.move (t15)
          apply relyD_const (by decide) (by decide); case h => (intro wr hR a' h15 K hK; go_wp2_with fail; exact Ext.refl _)
          -- 4: slot 84 := Op.indexAddr 51 (t82) (t83)
          apply relyD_const (by decide) (by decide); case h => (intro wr hR a' h82 h83 K hK; go_wp2_with fail; exact Ext.refl _)
          -- 5: slot 85 := Op.load 24 (t84)
          apply relyD_const (by decide) (by decide); case h => (intro wr hR a' h84 K hK; have k9 := hR.undrew.cell hcell; go_wp2_with fail; exact Ext.refl _)
          -- 6: slot 86 := Op.fieldAddr 54 (t13) 1
          apply relyD_const (by decide) (by decide); case h => (intro wr hR a' h13 K hK; go_wp2_with fail; exact Ext.refl _)
          -- 7: slot 87 := Op.load 22 (t86)
          apply relyD_const (by decide) (by decide); case h => (intro wr hR a' h86 K hK; have k4 := hR.undrew.cell y1; go_wp2_with fail; exact Ext.refl _)
          -- 8: slot 88 := Op.convert 22 24 (t87)
          apply relyD_const (by decide) (by decide); case h => (intro wr hR a' h87 K hK; go_wp2_with fail; exact Ext.refl _)
          -- 9: slot 89 := Op.binOp BinOp.add 24 (t85) (t88) 24
          apply relyD_const (by decide) (by decide); case h => (intro wr hR a' h85 h88 K hK; go_wp2_with fail; exact Ext.refl _)
          -- 10: slot 90 := Op.call { callee := Callee.builtin Builtin.min, args := #[t89, Operand.const (Value.int IntKind.u64 4294967295)], argTypes := #[24, 24] }
          apply relyD_const (by decide) (by decide); case h => (intro wr hR a' h89 K hK; go_wp2_with fail; exact Ext.refl _)
          -- 11: slot 91 := Op.indexAddr 51 (t80) (t81)
          apply relyD_const (by decide) (by decide); case h => (intro wr hR a' h80 h81 K hK; go_wp2_with fail; exact Ext.refl _)
          refine relyD_end ?_
          intro wt hR
          simp only [had, List.take_succ_cons, List.take_zero, List.map_cons, List.map_nil, List.cons_append, List.nil_append, ends, Act.put, List.setIfInBounds_toArray, List.set_cons_zero, List.set_cons_succ]
          refine hNx _ _ ?_
          have hx10 := hR.undrew
          have hrowr := Ext.keep (Lcl.row _ _ _ _) hx10 HRR.out
          have hs10 := Row.set hrowr a (pls x s1)
          rw [HST.out] at hs10
          obtain ⟨w10, hw10⟩ : ∃ w10, wt.setCell ⟨gw, a, none⟩ (.int .u64 (pls x s1)) = w10 := ⟨_, rfl⟩
          rw [hw10] at hs10
          have hk10 : Keep (fun q => q = gw) wt w10 := hs10.2.keep
          have X10 := Lib.hid (ext_keep (Ext.trans _ _ _ XR.out hx10) hb3 hk10)
          have O10 := Lib.hid ((owns_ext HOR.out hx10).kept (row := some gw) ⟨hk10.os, hk10.tape, hk10.output, hk10.size, fun q hq hne => hk10.block q hq (fun e => hne (by rw [e]))⟩ (fun e => by injection e with e; omega))
          have u0 := hk10.cell (hx10.cell y0) (show ¬ g13 = gw by omega)
          have u1 := hk10.cell (hx10.cell y1) (show ¬ g13 = gw by omega)
          have R10 := Lib.hid hs10.1
          have kc := hx10.cell hcell
          have kf := hrowr.free a
          have HW10 := Lib.hid hw10
          clear hs10 hk10 hx10 hrowr hR hw10 y0 y1 hcell BX9 HCX HRR HOR XR
          refine next_win 12 13 (fun a b => a = b) (OneW wt w10) 12 4095 (fun _ _ h => .inl h) (fun _ => rfl) (fun _ _ _ h k => h.trans k) (OneW.refl _ _) (OneW.trans _ _) [[(91, none), (90, none)]] [none, none, none, none, none, none, none, none, none, none, none, none, none] (by kernel_rfl) (by kernel_rfl) (by kernel_rfl) (by kernel_rfl) ?_
          intro Ny hNy
          refine relyD_the rfl (fun _ w => w = w10) (fun v w w' h r => r.end_ h) ?h12 ?_
          case h12 =>
            rintro w' rfl a' h91 h90 K hK
            have HK := Lib.hid (hK undef w10 (.inr ⟨rfl, rfl⟩) rfl)
            rw [← HW10.out] at HK
            clear hK
            go_wp2_with fail
            exact HK.out
          refine relyD_end ?_
          intro wz hR
          simp only [had, List.take_succ_cons, List.take_zero, List.map_cons, List.map_nil, List.cons_append, List.nil_append, ends, Act.put, List.setIfInBounds_toArray, List.set_cons_zero, List.set_cons_succ]
          rintro v9 hwz
          obtain rfl := hwz.symm
          refine hNy _ _ ?_
          clear hR hwz HW10 kc kf hNx
          refine next_done rfl ?_
          try simp only [Act.put, List.setIfInBounds_toArray, List.set_cons_zero, List.set_cons_succ]
          clear hNy
          go_wp2_with fail
          go_roundw
          case rel => exact ⟨r + 1, by omega, by go_num, O10.out, R10.out, u0, u1, X10.out⟩
          case measure => simp [intOf]; omega
        · obtain rfl : r = R := by omega
          rw [addTo_all HGK.out, HSN.out] at HRR
          go_wp2_with fail
          go_roundw
          case rel => exact ⟨k + 1, D.put (.int .u64 s0) (.lit (.int .u64 (tt + s1))), by omega, by go_num, HOR.out, HPUT.out _ rfl, HRR.out, XR.out⟩
          case measure => simp [intOf]; omega
    · obtain rfl : k = l.length := by omega
      rw [List.take_of_length_le (Nat.le_refl _)] at hrow HMT
      have HOW := Lib.hid hown
      have HRW := Lib.hid hrow
      have HRD := Lib.hid (KdX.reads_of_C HC3.out)
      clear hown hrow HA3 HHS
      go_wp2_with fail
      go_loopw [96] (fun v wq => ∃ j : Nat, j ≤ n ∧ v = .int .i64 j ∧ Own64 wq b l.length D ∧ Row 24 .u64 (.slice (some ⟨gw, 0, none⟩) n n) (sketch R C l) wq (fun q => q = gw) ∧ Ext w3 wq) (fun v _ => n - (intOf v).toNat)
      case atStart => exact ⟨0, by omega, rfl, HOW.out, HRW.out, XQ.out⟩
      case round =>
        obtain ⟨j, hj, rfl, hown, hrow, hxr⟩ := hrel
        have XR := Lib.hid hxr
        have HOR := Lib.hid hown
        have HRR := Lib.hid hrow
        clear hxr hown hrow HOW HRW XQ
        by_cases hj2 : j < n
        · have hj4 : (j : Int) < (n : Int) := by omega
          obtain ⟨bs, os, rfl, _, cx⟩ := (XR.out.reads HRD.out).at (show j < (sketch R C l).length by rw [hlen]; exact hj2)
          have cy := HRR.out.cell (i := j) (by rw [hlen]; exact hj2)
          have hgt := G.out.range (j : Int)
          have hrd : (sketch R C l).getD j 0 = rd (sketch R C l) (j : Int) := rfl
          rw [hrd] at cx cy
          obtain ⟨x, hx⟩ : ∃ x, rd (sketch R C l) (j : Int) = x := ⟨_, rfl⟩
          rw [hx] at cx cy hgt
          obtain ⟨k0, k1, k2⟩ := B9.out.ext XR.out
          have hnn : (x != x) = false := by simp
          clear hx hrd
          go_wp2_with fail
          go_roundw
          case rel => exact ⟨j + 1, by omega, by go_num, HOR.out, HRR.out, XR.out⟩
          case measure => simp [intOf]; omega
        · obtain rfl : j = n := by omega
          clear hj2
          have hsz := XR.out.size
          go_wp2_with (at_range; refine wpList_range_own _ rfl _ 52 rfl 24 24 keyed64 Try.underlying52 _ b l.length D rfl HOR.out ?_; intro w8 hrg8 hgr8 hsz8; have hx8 : Ext wr w8 := ⟨hgr8.os, hgr8.tape, hgr8.output, hgr8.size, fun i hi => hgr8.block i hi (by simp)⟩; have HR8 := Lib.hid hrg8; have HRW8 := Lib.hid (Ext.keep (Lcl.row _ _ _ _) hx8 HRR.out); have X8 := Lib.hid (Ext.trans _ _ _ XR.out hx8); clear hrg8 hgr8 hsz8 hx8)
          go_frame
          have hgwr : gw < wr.heap.size := (Lcl.row _ _ _ _).lt HRR.out rfl
          obtain ⟨gi, hgi⟩ : ∃ gi, wr.heap.size = gi := ⟨_, rfl⟩
          rw [hgi] at HR8 hsz hgwr ⊢
          clear hgi XR HOR HRR
          go_loopw [18] (fun _ wq => ∃ (left : Lit → Bool) (cnt : Nat), wq.ranges Try.prog 24 (plainElem Try.prog 24) b gi l.length D left cnt ∧ Row 24 .u64 (.slice (some ⟨gw, 0, none⟩) j j) (sketch R C l) wq (fun q => q = gw) ∧ Ext w3 wq) (fun _ wq => wq.rangeLeft b gi)
          case atStart => exact ⟨_, _, HR8.out, HRW8.out, X8.out⟩
          case round =>
            obtain ⟨left, cnt, hrg, hrow, hxr⟩ := hrel
            have XR := Lib.hid hxr
            have HRG := Lib.hid hrg
            have HRR := Lib.hid hrow
            have hrl := hrg.left_eq
            obtain ⟨k0, k1, k2⟩ := B9.out.ext XR.out
            clear hxr hrg hrow HR8 HRW8 X8
            go_wp2_with (first | (at_next; refine next_tot rfl _ rfl _ rfl b gi l.length D l HMT.out left cnt rfl HRG.out ?_ ?_) | go_in)
            · skip
              clear hrl HRG
              go_loopw [20, 126] (fun v20 v126 wq => ∃ r : Nat, r ≤ R ∧ v126 = .int .i64 r ∧ v20 = .int .u64 (least C h (sketch R C l) r) ∧ Row 24 .u64 (.slice (some ⟨gw, 0, none⟩) j j) (sketch R C l) wq (fun q => q = gw) ∧ Ext w3 wq) (fun _ v _ => R - (intOf v).toNat)
              case atStart => exact ⟨0, by omega, rfl, rfl, HRR.out, XR.out⟩
              case round =>
                obtain ⟨r, hr, rfl, rfl, hrow, hxr⟩ := hrel
                have XR2 := Lib.hid hxr
                have HRR2 := Lib.hid hrow
                clear hxr hrow XR HRR k0 k1 k2
                by_cases hr2 : r < R
                · have hr4 : (r : Int) < (R : Int) := by omega
                  have hr8 : r ≤ 8 := by omega
                  have hpw2 := rc_wrap (C := C) hr HN.out hrc
                  obtain ⟨rc, hrcE⟩ : ∃ rc, r * C = rc := ⟨_, rfl⟩
                  obtain ⟨p, hpl, ⟨hpC, hpL⟩, hpw, hle⟩ := rd_at G.out h hr2
                  clear hpw
                  rw [hlen] at hpL
                  have HPL := Lib.hid hpl
                  clear hpl
                  have hpn : (p : Int) ≤ 256 := Int.ofNat_le.2 (Nat.le_trans (Nat.le_of_lt hpC) C256)
                  have BX9 := Lib.hid (B9.out.ext XR2.out)
                  rw [hrcE] at hpw2 hle hpL
                  obtain ⟨a, hae⟩ : ∃ a, rc + p = a := ⟨_, rfl⟩
                  have hsa : (rc : Int) + (p : Int) = (a : Int) := by rw [← Int.natCast_add, hae]
                  rw [hae] at hpL hle
                  have hcell := (HRR2.out).cell (i := a) (by rw [hlen]; exact hpL)
                  have hrd : (sketch R C l).getD a 0 = rd (sketch R C l) (a : Int) := rfl
                  rw [hrd] at hcell
                  obtain ⟨x, hx⟩ : ∃ x, rd (sketch R C l) (a : Int) = x := ⟨_, rfl⟩
                  rw [hx] at hcell hle
                  have HLE := Lib.hid hle
                  have hale : (a : Int) < (j : Int) := Int.ofNat_lt.2 hpL
                  obtain ⟨lr, hlr⟩ : ∃ lr, least C h (sketch R C l) r = lr := ⟨_, rfl⟩
                  rw [hlr] at HLE ⊢
                  clear hx hrd hae hrcE hle hlr
                  go_wp2_with fail
                  refine wp_region_next (by kernel_rfl) ?_
                  refine next_win 0 16 Ext Ext 999 0 (fun _ _ h => h) Ext.refl Ext.trans Ext.refl Ext.trans [[(20, none)], [(10, none)], [(21, none)], [(9, none)], [(132, some 3)], [(131, some 2), (133, some 4)], [(3, none)], [(21, none)], [(9, none)], [(137, some 8)], [(135, some 6), (136, some 7), (138, some 9)], [(134, some 5), (139, some 10)], [(130, some 1), (140, some 11)], [(141, some 12)], [(129, some 0), (142, some 13)], [(143, some 14)]] [some 129, some 130, some 131, some 132, some 133, some 134, some 135, some 136, some 137, some 138, some 139, some 140, some 141, some 142, some 143, some 20] (by kernel_rfl) (by kernel_rfl) (by kernel_rfl) (by kernel_rfl) ?_
                  intro Nx hNx
                  -- 0: slot 129 := Op.move (t20)
                  apply relyD_const (by decide) (by decide); case h => (intro wr hR a' h20 K hK; go_wp2_with fail; exact Ext.refl _)
                  -- 1: slot 130 := Op.move (t10)
                  apply relyD_const (by decide) (by decide); case h => (intro wr hR a' h10 K hK; go_wp2_with fail; exact Ext.refl _)
                  -- 2: slot 131 := Op.move (t21)
                  apply relyD_const (by decide) (by decide); case h => (intro wr hR a' h21 K hK; go_wp2_with fail; exact Ext.refl _)
                  -- 3: slot 132 := Op.fieldAddr 49 (t9) 1
                  apply relyD_const (by decide) (by decide); case h => (intro wr hR a' h9 K hK; go_wp2_with fail; exact Ext.refl _)
                  -- 4: slot 133 := Op.load 3 (t132)
                  apply relyD_const (by decide) (by decide); case h => (intro wr hR a' h132 K hK; obtain ⟨k0, k1, k2⟩ := BX9.out.ext hR.undrew; go_wp2_with fail; exact Ext.refl _)
                  -- 5: slot 134 := Op.binOp BinOp.mul 3 (t131) (t133) 3
                  apply relyD_const (by decide) (by decide); case h => (intro wr hR a' h131 h133 K hK; go_wp2_with fail; exact Ext.refl _)
                  -- 6: slot 135 := Op.move (t3)
                  apply relyD_const (by decide) (by decide); case h => (intro wr hR a' h3 K hK; go_wp2_with fail; exact Ext.refl _)
                  -- 7: slot 136 := Op.move (t21)
                  apply relyD_const (by decide) (by decide); case h => (intro wr hR a' h21 K hK; go_wp2_with fail; exact Ext.refl _)
                  -- 8: slot 137 := Op.fieldAddr 49 (t9) 1
                  apply relyD_const (by decide) (by decide); case h => (intro wr hR a' h9 K hK; go_wp2_with fail; exact Ext.refl _)
                  -- 9: slot 138 := Op.load 3 (t137)
                  apply relyD_const (by decide) (by decide); case h => (intro wr hR a' h137 K hK; obtain ⟨k0, k1, k2⟩ := BX9.out.ext hR.undrew; go_wp2_with fail; exact Ext.refl _)
                  -- 10: slot 139 := Op.call { callee := Callee.value (Operand.func 30), args := #[t135, t136, t138], argTypes := #[24, 3, 3] }
                  refine relyD_const (by decide) (by decide) (.int .i64 p) ?h10 ?_
                  case h10 =>
                    intro wr9 hR a' h135 h136 h138 K hK
                    have HC1 := Lib.hid (lawplace_c h r C wr9 qh.1 qh.2 C1 C256 hr8)
                    have HC0 := HC1.out
                    rw [HPL.out] at HC0
                    have HC1 := Lib.hid HC0
                    clear HC0
                    go_wp2_with fail
                    refine HC1.out.mono ?_
                    rintro e w29 ⟨rfl, hb⟩
                    go_wp2_with fail
                    exact hb
                  -- 11: slot 140 := Op.binOp BinOp.add 3 (t134) (t139) 3
                  apply relyD_const (by decide) (by decide); case h => (intro wr hR a' h134 h139 K hK; go_wp2_with fail; exact Ext.refl _)
                  -- 12: slot 141 := Op.indexAddr 51 (t130) (t140)
                  apply relyD_const (by decide) (by decide); case h => (intro wr hR a' h130 h140 K hK; go_wp2_with fail; exact Ext.refl _)
                  -- 13: slot 142 := Op.load 24 (t141)
                  apply relyD_const (by decide) (by decide); case h => (intro wr hR a' h141 K hK; have k9 := hR.undrew.cell hcell; go_wp2_with fail; exact Ext.refl _)
                  -- 14: slot 143 := Op.call { callee := Callee.builtin Builtin.min, args := #[t129, t142], argTypes := #[24, 24] }
                  apply relyD_const (by decide) (by decide); case h => (intro wr hR a' h129 h142 K hK; go_wp2_with fail; exact Ext.refl _)
                  -- 15: slot 20 := Op.assign (t143)
                  apply relyD_const (by decide) (by decide); case h => (intro wr hR a' h143 K hK; go_wp2_with fail; exact Ext.refl _)
                  refine relyD_end ?_
                  intro wt hR
                  simp only [had, List.take_succ_cons, List.take_zero, List.map_cons, List.map_nil, List.cons_append, List.nil_append, ends, Act.put, List.setIfInBounds_toArray, List.set_cons_zero, List.set_cons_succ]
                  refine hNx _ _ ?_
                  refine next_done rfl ?_
                  replace XR2 := Lib.hid (Ext.trans _ _ _ XR2.out hR.undrew)
                  replace HRR2 := Lib.hid (Ext.keep (Lcl.row _ _ _ _) hR.undrew HRR2.out)
                  clear hR hNx hcell BX9
                  try simp only [Act.put, List.setIfInBounds_toArray, List.set_cons_zero, List.set_cons_succ]
                  go_wp2_with fail
                  go_roundw
                  case rel => exact ⟨r + 1, by omega, by go_num, by rw [HLE.out], HRR2.out, XR2.out⟩
                  case measure => simp [intOf]; omega
                · obtain rfl : r = R := by omega
                  obtain ⟨k0, k1, k2⟩ := B9.out.ext XR2.out
                  have HCK := cms_Cms_Check.calls 1 r C As cs (sketch r C l) 0 wr (C_ext HC3.out XR2.out) (by rw [hlen]; exact hcs) (check_f G.out 1 (by omega))
                  rw [hlen] at HCK
                  have HC1 := Lib.hid HCK
                  clear HCK
                  go_wp2_with fail
                  refine HC1.out.mono ?_
                  rintro e w20 ⟨rfl, hx20⟩
                  have X20 := Lib.hid (Ext.trans _ _ _ XR2.out hx20)
                  have HMO := most_c G.out h w20 As cs (C_ext HC3.out X20.out) (by rw [hlen]; exact hcs)
                  rw [hlen] at HMO
                  have hll : 0 ≤ least C h (sketch r C l) r ∧ least C h (sketch r C l) r ≤ 4294967295 := ⟨least_nn G.out h r, least_le _ _ _ _⟩
                  obtain ⟨lx, hlx⟩ : ∃ lx, least C h (sketch r C l) r = lx := ⟨_, rfl⟩
                  rw [hlx] at HMO hll ⊢
                  have HM1 := Lib.hid HMO
                  clear hlx HMO HC1 hx20 k0 k1 k2
                  obtain ⟨k0, k1, k2⟩ := B9.out.ext X20.out
                  go_wp2_with fail
                  refine HM1.out.mono ?_
                  rintro e w21 ⟨rfl, hx21⟩
                  go_wp2_with fail
                  go_ret
                  exact ⟨rfl, Ext.trans _ _ _ X3.out (Ext.trans _ _ _ X20.out hx21)⟩
            · intro x cc w9 cnt9 left9 hx0 hx1 hcc hrg9 hlt9 hg9 hen
              have htt := tot_le x HOK.out
              have hlt := least_tot R1 R8 C1 C256 HOK.out x
              rw [← hcc] at hlt htt
              have hx9 := ext_grown XR.out hg9 hsz
              have HX9 := Lib.hid hx9
              have HR9 := Lib.hid hrg9
              have hrl9 := hrg9.left_eq
              have HRR9 := Lib.hid (show Row 24 .u64 (.slice (some ⟨gw, 0, none⟩) j j) (sketch R C l) w9 (fun q => q = gw) from (Lcl.row _ _ _ _).stay HRR.out (T := fun q => q = gi) ⟨hg9.os, hg9.tape, hg9.output, hg9.size, fun q hq hne => hg9.block q hq (fun e => hne (by injection e))⟩ (fun y hy hz => by have h1 : y = gw := hy; have h2 : y = gi := hz; omega))
              have HMO := most_c G.out x w9 As cs (C_ext HC3.out hx9) (by rw [hlen]; exact hcs)
              obtain ⟨lx, hlx⟩ : ∃ lx, least C x (sketch R C l) R = lx := ⟨_, rfl⟩
              rw [hlx] at HMO hlt
              rw [hlen] at HMO
              have HMO1 := Lib.hid HMO
              have hlx0 : 0 ≤ lx ∧ lx ≤ 4294967295 := by rw [← hlx]; exact ⟨least_nn G.out x R, least_le _ _ _ _⟩
              clear k0 k1 k2
              obtain ⟨k0, k1, k2⟩ := B9.out.ext hx9
              have dlt : decide (lx < min cc 4294967295) = false := by rw [decide_eq_false_iff_not]; exact hlt
              have DL := Lib.hid dlt
              clear hrg9 hg9 HMO hx9 hlx HRG hcc hlt dlt hx0 hx1
              go_wp2_with fail
              refine HMO1.out.mono ?_
              rintro e w10 ⟨rfl, hx10⟩
              have XA := Lib.hid (Ext.trans _ _ _ HX9.out hx10)
              have hrgA := HR9.out.kept (row := none) (grown_of_ext hx10) (by simp) (by simp)
              have HRA := Lib.hid hrgA
              have hrlA := hrgA.left_eq
              have HRWA := Lib.hid (Ext.keep (Lcl.row _ _ _ _) hx10 HRR9.out)
              have dlt := DL.out
              clear hx10 hrgA HR9 HRR9 HMO1 HX9 k0 k1 k2 hen
              go_wp2_with fail
              go_roundw
              case rel => exact ⟨_, cnt9, HRA.out, HRWA.out, XA.out⟩
              case measure => rw [hrlA, hrl]; exact hlt9
end Go.Proofs.Ythemincohmgihaa.PCmsMerges
