/- P1, P20.1: any bytes, with right sums or not: a frame whose bytes they are, or an error: at every input, without conditions. -/
import Derived.Test.YtfpeeilenocaoaaFrameP
import Derived.Test.YtfpeeilenocaoaaFrameR
namespace Go.Proofs.Ytfpeeilenocaoaa.Frame
open Go.RowKit Go.Proofs.Ytfpeeilenocaoaa.Own Go.Proofs.Ytfpeeilenocaoaa.Rely Go.Proofs.Ytfpeeilenocaoaa.Crc
attribute [local go_sem] max_ints min_ints

theorem takeF_err {xs : List Int} {x : Int} (h : takeF xs = .error x) : x ≠ 0 := by
  unfold takeF at h
  simp only at h
  split at h
  · cases h; assumption
  split at h
  · cases h; decide
  split at h
  · cases h; decide
  split at h
  · cases h; decide
  split at h
  · cases h; assumption
  · cases h
theorem conv_bytes2 {xs : List Int} (hb : IsBytes xs) (hl : xs.length ≤ 1000000) (w : World) : ∃ c w', (convert 9 22 (.string (strOfNums xs))).run Try.prog w = .ok (.slice (some ⟨w.heap.size, 0, none⟩) xs.length c) w' ∧ Reads w' .u8 (some ⟨w.heap.size, 0, none⟩) xs ∧ Ext w w' ∧ xs.length ≤ c ∧ c ≤ 9223372036854775807 := by
  obtain ⟨c, w', h1, h2, h3⟩ := conv_bytes hb w
  have hrun := Lib.run_convert_string_bytes (P := Try.prog) w 9 22 5 (strOfNums xs) Try.underlying9 Try.underlying22 Try.underlying5
  rw [Crc.size_str, h1] at hrun
  injection hrun with e1 e2
  injection e1 with _ _ e3
  subst e3
  refine ⟨_, _, h1, h2, h3, grownCap_ge _ _ _ _, ?_⟩
  have := grownCap_le_maxLen w xs.length 0 5 (by simp only [maxLen]; omega)
  simp only [maxLen] at this
  omega
set_option maxHeartbeats 16000000 in
set_option maxRecDepth 20000 in
theorem any_wf (A0 : Option Addr) (c0 : Nat) (xs : List Int) (A1 : Option Addr) (c1 : Nat) (nm : List Int) (k : Int) (A2 : Option Addr) (c2 : Nat) (pay : List Int) (kind size : Int) (w : World) (h0 : ArgI w .u8 A0 c0 xs) (h1 : ArgI w .u8 A1 c1 nm) (h2 : (Lit.int .u8 k).wf = true) (h3 : ArgI w .u8 A2 c2 pay) (hk : (Lit.int .u8 kind).wf = true) (hz : (Lit.int .u8 size).wf = true) :
    Calls Try.prog 4 #[.slice A0 xs.length c0, .agg #[.slice A1 nm.length c1, .int .u8 k, .slice A2 pay.length c2], .int .u8 kind, .int .u8 size] w fun e w' => e = .returned (.bool true) ∧ Below w.heap.size w w' := by
  have hkr := wf_u8 hk
  have hzr := wf_u8 hz
  obtain ⟨kn, rfl⟩ : ∃ kn : Nat, kind = (kn : Int) := ⟨kind.toNat, by omega⟩
  obtain ⟨zn, rfl⟩ : ∃ kn : Nat, size = (kn : Int) := ⟨size.toNat, by omega⟩
  have HR := Lib.hid h3.reads
  have HN := Lib.hid h1.reads
  have HX := Lib.hid h0.reads
  have hxc := h0.le
  have hxm := h0.cap
  have hnc := h1.le
  have hncm := h1.cap
  simp only [maxLen] at hxm hncm
  have HB := Lib.hid (show IsBytes pay from fun x hx => wf_u8 (h3.rng x hx))
  have HNB := Lib.hid (show IsBytes nm from fun x hx => wf_u8 (h1.rng x hx))
  have HXB := Lib.hid (show IsBytes xs from fun x hx => wf_u8 (h0.rng x hx))
  have hx1 : Ext w (w.alloc (.cells #[.slice A1 nm.length c1, .int .u8 k, .slice A2 pay.length c2] 24)) := (Below.refl _ _).alloc (Nat.le_refl _) _
  have hbk := heap_alloc_new w (.cells #[.slice A1 nm.length c1, .int .u8 k, .slice A2 pay.length c2] 24)
  have HX1 := Lib.hid hx1
  have HBK := Lib.hid hbk
  clear h0 h1 h2 h3 hx1 hbk hk hz
  go_enter Try.func4, Try.ntmps4
  go_wp2_with fail
  refine (awake20 _).mono ?_
  rintro e w1 ⟨rfl, hx1⟩
  have X1 := Lib.hid (Ext.trans _ _ _ HX1.out hx1)
  have HB1 := Lib.hid ((hx1.block _ (Array.getElem?_eq_some_iff.1 HBK.out).1).trans HBK.out)
  have k0 : w1.cell? ⟨w.heap.size, 0, none⟩ = some (.slice A1 nm.length c1) := Blk.cell (S := fun q => q = w.heap.size) ⟨HB1.out, fun _ => Iff.rfl⟩ 0
  have k2 : w1.cell? ⟨w.heap.size, 2, none⟩ = some (.slice A2 pay.length c2) := Blk.cell (S := fun q => q = w.heap.size) ⟨HB1.out, fun _ => Iff.rfl⟩ 2
  clear hx1 HX1 HBK HB1
  by_cases hl0 : 200 < xs.length
  · have g1 : decide ((200 : Int) < (xs.length : Int)) = true := by simp; omega
    go_wp2_with fail
    go_ret
    exact ⟨rfl, X1.out⟩
  have g0 : decide ((200 : Int) < (xs.length : Int)) = false := by simp; omega
  by_cases hl : 300 < nm.length
  · have g1 : decide ((300 : Int) < (nm.length : Int)) = true := by simp; omega
    go_wp2_with fail
    go_ret
    exact ⟨rfl, X1.out⟩
  have g1 : decide ((300 : Int) < (nm.length : Int)) = false := by simp; omega
  by_cases hlp : 100 < pay.length
  · have g2 : decide ((100 : Int) < (pay.length : Int)) = true := by simp; omega
    go_wp2_with fail
    go_ret
    exact ⟨rfl, X1.out⟩
  have g2 : decide ((100 : Int) < (pay.length : Int)) = false := by simp; omega
  obtain ⟨n, hn1, hn2, hn3⟩ : ∃ n : Nat, min (nm.length : Int) 255 = (n : Int) ∧ n ≤ nm.length ∧ n ≤ 255 := ⟨min nm.length 255, by omega, by omega, by omega⟩
  have hwr : (kn : Int).tmod 8 = ((kn % 8 : Nat) : Int) := by rw [Int.tmod_eq_emod_of_nonneg (by omega)]; rfl
  obtain ⟨K8, hK8, hK8b⟩ : ∃ K8, kn % 8 = K8 ∧ K8 < 8 := ⟨_, rfl, Nat.mod_lt _ (by omega)⟩
  rw [hK8] at hwr
  clear hK8
  have HNT := Lib.hid ((Ext.reads X1.out HN.out).take n)
  have HTL := Lib.hid (show (nm.take n).length = n by rw [List.length_take]; omega)
  have hxl : Ext w1 (w1.alloc (.cells #[.int .u8 n] 5)) := (Below.refl _ _).alloc (Nat.le_refl _) _
  have k0a := hxl.cell k0
  have hrow0 := Row.lit 5 .u8 [(n : Int)] w1 (by simp)
  have HRW0 := Lib.hid (show Row 5 .u8 (.slice (some ⟨w1.heap.size, 0, none⟩) 1 1) [(n : Int)] (w1.alloc (.cells #[.int .u8 n] 5)) _ from hrow0)
  have HNA := Lib.hid (Ext.reads hxl HNT.out)
  have ST0 := Lib.hid (show Step (fun _ => False) (fun b => b = w1.heap.size) w1 (w1.alloc (.cells #[.int .u8 n] 5)) from ⟨Keep.of_below hxl, fun k hk => .inr (Nat.le_of_eq hk.symm)⟩)
  clear hrow0 hxl
  go_wp2_with (first
    | (at_builtin; refine append_row _ rfl _ _ 22 rfl 5 .u8 1 Try.underlying22 Crc.info_u8 (by decide) _ [(n : Int)] (nm.take n) A1 n c1 rfl rfl HTL.out.symm Lcl.emp (HRW0.out).sepEmp HNA.out (by rw [HTL.out]; simp; omega) ?_; intro A3 c3 w3 S3 h3 st3; have H3 := Lib.hid h3.left_of_emp; have ST3 := Lib.hid (ST0.out.trans st3); clear h3 st3; simp only [List.length_singleton] at H3 ⊢)
    | (at_builtin; refine append_lit _ 5 rfl _ _ 22 rfl .u8 1 Try.underlying22 Crc.info_u8 (by decide) _ ([(n : Int)] ++ nm.take n) [(K8 : Int)] 1 1 rfl rfl rfl rfl Lcl.emp H3.out.sepEmp (by rw [List.length_append, HTL.out]; simp; omega) ?_; intro A4 c4 w4 S4 h4 st4; rw [List.length_append, HTL.out] at h4 ⊢; have H4 := Lib.hid h4.left_of_emp; have ST4 := Lib.hid (ST3.out.trans st4); clear h4 st4; simp only [List.length_singleton] at H4 ⊢))
  clear H3 ST3 HRW0 HNA k0a ST0 HNT
  refine (word_calls w4 zn (show zn < 4294967296 by omega)).mono ?_
  rintro e w5 ⟨p5, rfl, hrow5, hb5⟩
  have H5 := Lib.hid (Ext.keep (Lcl.row _ _ _ _) hb5 H4.out)
  have ST5 := Lib.hid (ST4.out.trans (show Step S4 S4 w4 w5 from ⟨Keep.of_below hb5, fun _ h => .inl h⟩))
  have HR5 := Lib.hid (readsAny hrow5)
  have hwl : (wd zn).length = 4 := rfl
  have HWL := Lib.hid hwl
  clear hrow5 hb5 H4 ST4 hwl
  go_wp2_with (at_builtin; refine append_row _ rfl _ _ 22 rfl 5 .u8 1 Try.underlying22 Crc.info_u8 (by decide) _ ([(n : Int)] ++ nm.take n ++ [(K8 : Int)]) (wd zn) (some ⟨p5, 0, none⟩) 4 4 rfl rfl rfl Lcl.emp H5.out.sepEmp HR5.out (by rw [List.length_append, List.length_append, HTL.out, HWL.out]; simp; omega) ?_; intro A6 c6 w6 S6 h6 st6; have h6b := h6.left_of_emp; rw [List.length_append, List.length_append, HTL.out] at h6b ⊢; simp only [List.length_singleton] at h6b ⊢; have H6 := Lib.hid h6b; have ST6 := Lib.hid (ST5.out.trans st6); clear h6 st6 h6b)
  clear H5 ST5 HR5 HWL
  have hlen : ([(n : Int)] ++ nm.take n ++ [(K8 : Int)] ++ wd zn).length = 1 + n + 1 + 4 := by
    rw [List.length_append, List.length_append, List.length_append, HTL.out]; rfl
  have HHB := Lib.hid (show IsBytes ([(n : Int)] ++ nm.take n ++ [(K8 : Int)] ++ wd zn) from by
    intro x hx
    rcases List.mem_append.1 hx with hx | hx
    · rcases List.mem_append.1 hx with hx | hx
      · rcases List.mem_append.1 hx with hx | hx
        · rw [List.mem_singleton.1 hx]; omega
        · exact HNB.out x (List.mem_of_mem_take hx)
      · rw [List.mem_singleton.1 hx]; omega
    · exact wd_bytes _ x hx)
  generalize [(n : Int)] ++ nm.take n ++ [(K8 : Int)] ++ wd zn = hd at H6 hlen HHB
  have HRH := Lib.hid (readsAny H6.out)
  obtain ⟨m, hm, hmb⟩ : ∃ m, 1 + n + 1 + 4 = m ∧ m ≤ 300 := ⟨_, rfl, by omega⟩
  rw [hm] at hlen ⊢
  have X6 := Lib.hid (Ext.trans _ _ _ X1.out (Wire.belowF ST6.out))
  have HR6 := Lib.hid (Ext.reads X6.out HR.out)
  have HX6 := Lib.hid (Ext.reads X6.out HX.out)
  have k26 := Ext.cell (Wire.belowF ST6.out) k2
  have HLEN := Lib.hid hlen
  clear H6 ST6 hm hlen k0 k2
  obtain ⟨M, hM⟩ : ∃ M, sumd hd ++ sumd pay = M := ⟨_, rfl⟩
  have HMB := Lib.hid (show IsBytes M by rw [← hM]; intro x hx; exact (List.mem_append.1 hx).elim (sumd_bytes HHB.out x) (sumd_bytes HB.out x))
  have hMl : M.length = m + 4 + (pay.length + 4) := by rw [← hM, List.length_append, sumd_len, sumd_len, HLEN.out]
  have HML := Lib.hid hMl
  have hstr : strOfNums (sumd hd) ++ strOfNums (sumd pay) = strOfNums M := by rw [str_app, hM]
  have hsz1 : (strOfNums (sumd hd)).size = m + 4 := by rw [Crc.size_str, sumd_len, HLEN.out]
  have hsz2 : (strOfNums (sumd pay)).size = pay.length + 4 := by rw [Crc.size_str, sumd_len]
  clear hMl hM
  go_wp2_with fail
  refine wp_region_rely (by kernel_rfl) Ext Ext.refl Ext.trans [[(10, none)], [(56, some 0)], [(5, none)], [(58, some 2)], [(59, some 3)], [(57, some 1), (60, some 4)], [(61, some 5)], [(62, some 6)]] [some 56, some 57, some 58, some 59, some 60, some 61, some 62, some 11] (by kernel_rfl) (by kernel_rfl) ?_
  apply rely_const; case h => (intro wr hR a h10 K hK; go_wp2_with fail; exact Ext.refl _)
  apply rely_const
  case h =>
    intro wr hR a h56 K hK
    have hs := summed_calls wr A6 c6 hd (hR.undrew.reads HRH.out) HHB.out (by rw [HLEN.out]; omega)
    rw [HLEN.out, str_app] at hs
    have HS := Lib.hid (show Calls Try.prog 19 #[.slice A6 m c6] wr fun e w' => e = .returned (.string (strOfNums (sumd hd))) ∧ Below wr.heap.size wr w' from hs)
    clear hs
    go_wp2_with fail
    refine (HS.out).mono ?_
    rintro e w2 ⟨rfl, hb⟩
    go_wp2_with fail
    exact hb
  apply rely_const; case h => (intro wr hR a h5 K hK; go_wp2_with fail; exact Ext.refl _)
  apply rely_const; case h => (intro wr hR a h58 K hK; have k9 := hR.undrew.cell k26; go_wp2_with fail; exact Ext.refl _)
  apply rely_const
  case h =>
    intro wr hR a h59 K hK
    have hs := summed_calls wr A2 c2 pay (hR.undrew.reads HR6.out) HB.out (by omega)
    rw [str_app] at hs
    have HS := Lib.hid (show Calls Try.prog 19 #[.slice A2 pay.length c2] wr fun e w' => e = .returned (.string (strOfNums (sumd pay))) ∧ Below wr.heap.size wr w' from hs)
    clear hs
    go_wp2_with fail
    refine (HS.out).mono ?_
    rintro e w2 ⟨rfl, hb⟩
    go_wp2_with fail
    exact hb
  apply rely_const; case h => (intro wr hR a h57 h60 K hK; go_wp2_with fail; exact Ext.refl _)
  refine rely_rel (fun v wr => ∃ A c, v = .slice A M.length c ∧ Reads wr .u8 A M ∧ M.length ≤ c ∧ c ≤ 9223372036854775807) (fun v w w' ⟨A1, c1, e, h, h1⟩ x => ⟨A1, c1, e, x.reads h, h1⟩) ?h6 ?_
  case h6 =>
    intro wr hR a h61 K hK
    obtain ⟨cv, wv, hcv, hrdv, hxv, hcp⟩ := conv_bytes2 HMB.out (by have := HML.out; omega) wr
    have HK := Lib.hid (hK _ _ hxv ⟨_, _, rfl, hrdv, hcp⟩)
    clear hK hrdv hxv hcp
    go_wp2_with fail
    exact HK.out
  refine rely_rel (fun v wr => ∃ A c, v = .slice A M.length c ∧ Reads wr .u8 A M ∧ M.length ≤ c ∧ c ≤ 9223372036854775807) (fun v w w' ⟨A1, c1, e, h, h1⟩ x => ⟨A1, c1, e, x.reads h, h1⟩) ?h7 ?_
  case h7 =>
    rintro wr hR a v h62 ⟨A7, c7, rfl, hrd⟩ K hK
    have HK := Lib.hid (hK _ _ (Ext.refl _) ⟨_, _, rfl, hrd⟩)
    clear hK hrd
    go_wp2_with fail
    exact HK.out
  refine rely_end ?_
  intro wr hR
  simp only [ends, Act.put, List.setIfInBounds_toArray, List.set_cons_zero, List.set_cons_succ]
  rintro _ - _ ⟨A7, c7, rfl, hrd7, hc7, hc7m⟩
  have hxr : Ext w wr := Ext.trans _ _ _ X6.out hR.undrew
  have hxq : Ext wr (wr.alloc (.cells #[.slice A0 xs.length c0, .slice A7 M.length c7] 22)) := (Below.refl _ _).alloc (Nat.le_refl _) _
  have hbq := heap_alloc_new wr (.cells #[.slice A0 xs.length c0, .slice A7 M.length c7] 22)
  have e0 := Blk.cell (S := fun q => q = wr.heap.size) ⟨hbq, fun _ => Iff.rfl⟩ 0
  have e1 := Blk.cell (S := fun q => q = wr.heap.size) ⟨hbq, fun _ => Iff.rfl⟩ 1
  simp only [List.getElem?_toArray, List.getElem?_cons_zero, List.getElem?_cons_succ] at e0 e1
  have HX7 := Lib.hid (Ext.trans _ _ _ hxr hxq)
  have hMl : M.length ≤ 1000 := by have := HML.out; omega
  have HEL : RowKit.Hid (∀ j : Nat, j < 2 → ∃ (A : Option Addr) (L : List Int) (c : Nat), (wr.alloc (.cells #[.slice A0 xs.length c0, .slice A7 M.length c7] 22)).cell? ⟨wr.heap.size, j, none⟩ = some (.slice A L.length c) ∧ Reads (wr.alloc (.cells #[.slice A0 xs.length c0, .slice A7 M.length c7] 22)) .u8 A L ∧ IsBytes L ∧ L.length ≤ 1000 ∧ L.length ≤ c ∧ c ≤ 9223372036854775807) := Lib.hid (by
    intro j hj
    match j, hj with
    | 0, _ => exact ⟨A0, xs, c0, e0, Ext.reads (Ext.trans _ _ _ hxr hxq) HX.out, HXB.out, by omega, hxc, by omega⟩
    | 1, _ => exact ⟨A7, M, c7, e1, hxq.reads hrd7, HMB.out, hMl, hc7, hc7m⟩)
  clear hxr hxq hbq e0 e1 hrd7 hc7 hc7m HRH HR6 HX6 X6 hR hstr hsz1 hsz2 HMB HML HLEN HHB k26 HTL hwr
  go_wp2_with fail
  generalize wr.alloc (.cells #[.slice A0 xs.length c0, .slice A7 M.length c7] 22) = w7 at HX7 HEL ⊢
  generalize wr.heap.size = p7 at HEL ⊢
  go_loopw [67] (fun v wq => ∃ j : Nat, j ≤ 2 ∧ v = .int .i64 j ∧ Ext w7 wq) (fun v _ => 2 - (intOf v).toNat)
  case atStart => exact ⟨0, by omega, rfl, Ext.refl _⟩
  case round =>
    obtain ⟨j, hj, rfl, hxr⟩ := hrel
    have XR := Lib.hid hxr
    clear hxr
    by_cases hj2 : j < 2
    · have hj4 : decide ((j : Int) < 2) = true := by simp; omega
      obtain ⟨A, L, c, cx, hrd, hLb, hLl, hLc, hcm⟩ := HEL.out j hj2
      replace cx := XR.out.cell cx
      have HRL := Lib.hid (XR.out.reads hrd)
      have HLB := Lib.hid hLb
      clear hrd hLb
      go_wp2_with fail
      refine (take_c A c L wr HRL.out HLB.out (by omega) hLc hcm).mono ?_
      rintro e w8 ⟨hx8, ht⟩
      cases htk : takeF L with
      | error x =>
        rw [htk] at ht
        obtain rfl := ht
        have XT := Lib.hid (Ext.trans _ _ _ XR.out hx8)
        have hx0 := takeF_err htk
        have hx0b : (x != 0) = true := by simpa using hx0
        have hx9 : Ext w8 (w8.alloc (.cells #[.string ⟨#[]⟩, .int .u8 0, .slice none 0 0] 30)) := (Below.refl _ _).alloc (Nat.le_refl _) _
        have X9 := Lib.hid (Ext.trans _ _ _ XT.out hx9)
        clear hx8 htk hx9
        go_wp2_with fail
        go_roundw
        case rel => exact ⟨j + 1, by omega, rfl, X9.out⟩
        case measure => simp [intOf]; omega
      | ok t =>
        obtain ⟨nb, kb, pb⟩ := t
        rw [htk] at ht
        obtain ⟨A9, c9, rfl, hrd9⟩ := ht
        obtain ⟨hL, hnb, hpb, hck⟩ := take_back HLB.out htk
        have hfl := frame_len nb kb pb
        rw [← hL] at hfl
        have hpl2 : pb.length ≤ 1000 := by omega
        have XT := Lib.hid (Ext.trans _ _ _ XR.out hx8)
        have hx9 : Ext w8 (w8.alloc (.cells #[.string (strOfNums nb), .int .u8 kb, .slice A9 pb.length c9] 30)) := (Below.refl _ _).alloc (Nat.le_refl _) _
        have hb9 := heap_alloc_new w8 (.cells #[.string (strOfNums nb), .int .u8 kb, .slice A9 pb.length c9] 30)
        have y0 := Blk.cell (S := fun q => q = w8.heap.size) ⟨hb9, fun _ => Iff.rfl⟩ 0
        have y1 := Blk.cell (S := fun q => q = w8.heap.size) ⟨hb9, fun _ => Iff.rfl⟩ 1
        have y2 := Blk.cell (S := fun q => q = w8.heap.size) ⟨hb9, fun _ => Iff.rfl⟩ 2
        simp only [List.getElem?_toArray, List.getElem?_cons_zero, List.getElem?_cons_succ] at y0 y1 y2
        have hp := put_c nb pb kb c9 A9 _ (hx9.reads hrd9) hpb hnb (by omega) hck
        rw [← hL] at hp
        have HP := Lib.hid hp
        have X9 := Lib.hid (Ext.trans _ _ _ XT.out hx9)
        have HRL9 := Lib.hid (hx9.reads (hx8.reads HRL.out))
        clear hp hx9 hb9 hx8 htk hrd9 hfl hL
        go_wp2_with fail
        refine HP.out.mono ?_
        rintro e w10 ⟨A10, c10, rfl, hrd10, _, _, hx10⟩
        have z0 := hx10.cell y0
        have z1 := hx10.cell y1
        have z2 := hx10.cell y2
        have HC := check_c (strOfNums nb) kb pb.length c9 A9 w10
        rw [Crc.size_str, hck] at HC
        have HCK := Lib.hid HC
        have HRL10 := Lib.hid (hx10.reads HRL9.out)
        have HRD10 := Lib.hid hrd10
        have X10 := Lib.hid (Ext.trans _ _ _ X9.out hx10)
        clear HC hx10 y0 y1 y2 HP HRL9 hrd10
        go_wp2_with fail
        refine HCK.out.mono ?_
        rintro e w11 ⟨rfl, hx11⟩
        have X11 := Lib.hid (Ext.trans _ _ _ X10.out hx11)
        have cv1 : (convert 22 9 (.slice A10 L.length c10)).run Try.prog w11 = .ok (.string (strOfNums L)) w11 := (hx11.reads HRD10.out).string (P := Try.prog) Try.underlying22 Try.underlying5 Try.underlying9 c10
        have cv2 : (convert 22 9 (.slice A L.length c)).run Try.prog w11 = .ok (.string (strOfNums L)) w11 := (hx11.reads HRL10.out).string (P := Try.prog) Try.underlying22 Try.underlying5 Try.underlying9 c
        clear hx11 z0 z1 z2 HCK
        go_wp2_with fail
        go_roundw
        case rel => exact ⟨j + 1, by omega, rfl, X11.out⟩
        case measure => simp [intOf]; omega
    · obtain rfl : j = 2 := by omega
      go_wp2_with fail
      go_ret
      exact ⟨rfl, Ext.trans _ _ _ HX7.out XR.out⟩
end Go.Proofs.Ytfpeeilenocaoaa.Frame
