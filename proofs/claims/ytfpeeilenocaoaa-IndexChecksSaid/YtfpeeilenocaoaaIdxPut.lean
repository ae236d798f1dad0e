/- The index's Put: what it writes. -/
import Derived.Test.YtfpeeilenocaoaaIdxChk
namespace Go.Proofs.Ytfpeeilenocaoaa.Idx
open Go.RowKit Go.Proofs.Ytfpeeilenocaoaa.Own Go.Proofs.Ytfpeeilenocaoaa.Rely Go.Proofs.Ytfpeeilenocaoaa.Crc Go.Proofs.Ytfpeeilenocaoaa.Frame
open Wire (enc)
attribute [local go_sem] max_ints min_ints

def entB (x : Ent) : List Int := [(x.1.length : Int)] ++ x.1 ++ enc x.2.2.toNat
/-- What is written when j entries are. -/
def partB (l : List Ent) (j : Nat) : List Int := if j = 0 then enc l.length else enc l.length ++ enc (l.getD 0 e0).2.1.toNat ++ (l.take j).flatMap entB
def idxB (l : List Ent) : List Int := partB l l.length
/-- Bounds of an entry. -/
def Bd (x : Ent) : Prop := 1 ≤ x.1.length ∧ x.1.length ≤ 255 ∧ 0 ≤ x.2.1 ∧ x.2.1 ≤ 1048576 ∧ 1 ≤ x.2.2 ∧ x.2.2 ≤ 1048576
theorem chkL_bd : ∀ (l : List Ent) (p : Option Ent), chkL p l = 0 → ∀ x ∈ l, Bd x
  | [], _, _, x, hx => by cases hx
  | y :: l, p, h, x, hx => by
    unfold chkL at h
    split at h
    · rename_i h1
      rcases List.mem_cons.1 hx with rfl | hx
      · exact chk1_ok h1
      · exact chkL_bd l _ h x hx
    · rename_i h1; exact absurd h h1
theorem check_bd {l : List Ent} (h : checkX l = 0) : l.length ≤ 1000 ∧ ∀ x ∈ l, Bd x := by
  unfold checkX at h
  split at h
  · cases h
  · exact ⟨by omega, chkL_bd l _ h⟩
theorem getD_mem {l : List Ent} {j : Nat} (h : j < l.length) : l.getD j e0 ∈ l := by
  rw [List.getD_eq_getElem?_getD, List.getElem?_eq_getElem h]
  exact List.getElem_mem h
theorem part_step {l : List Ent} {j : Nat} (h : j < l.length) : partB l (j + 1) = (if j = 0 then partB l j ++ enc (l.getD j e0).2.1.toNat else partB l j) ++ [((l.getD j e0).1.length : Int)] ++ (l.getD j e0).1 ++ enc (l.getD j e0).2.2.toNat := by
  have ht : l.take (j + 1) = l.take j ++ [l.getD j e0] := by
    rw [List.take_add_one, List.getElem?_eq_getElem h]
    simp [List.getD_eq_getElem?_getD, List.getElem?_eq_getElem h]
  unfold partB
  rw [if_neg (by omega), ht, List.flatMap_append]
  by_cases j0 : j = 0
  · subst j0
    simp [entB]
  · simp [j0, entB]
theorem enc_le {n : Nat} (h : n ≤ 1048576) : (enc n).length ≤ 10 := Wire.enc_ten (show n < 18446744073709551616 by omega)
theorem flatB_len : ∀ (l : List Ent), (∀ x ∈ l, Bd x) → (l.flatMap entB).length ≤ l.length * 266
  | [], _ => by simp
  | x :: l, h => by
    have h1 := flatB_len l (fun y hy => h y (List.mem_cons_of_mem _ hy))
    have h2 := h x (List.mem_cons_self ..)
    have h3 := enc_le (n := x.2.2.toNat) (by have := h2.2.2.2.2.2; omega)
    simp only [List.flatMap_cons, List.length_append, entB, List.length_cons, List.length_nil]
    have := h2.2.1
    omega
theorem part_len {l : List Ent} (h : checkX l = 0) (j : Nat) : (partB l j).length ≤ 300000 := by
  obtain ⟨h1, h2⟩ := check_bd h
  have e1 := enc_le (n := l.length) (by omega)
  unfold partB
  split
  · omega
  · have h3 := flatB_len (l.take j) (fun x hx => h2 x (List.mem_of_mem_take hx))
    have h4 : (l.take j).length ≤ 1000 := by rw [List.length_take]; omega
    have e2 : (enc (l.getD 0 e0).2.1.toNat).length ≤ 10 := by
      refine enc_le ?_
      by_cases h0 : 0 < l.length
      · have := (h2 _ (getD_mem h0)).2.2.2.1; omega
      · rw [List.getD_eq_getElem?_getD, List.getElem?_eq_none (by omega)]; decide
    simp only [List.length_append]
    omega
/-- Names of bytes. -/
def NmB (l : List Ent) : Prop := ∀ x ∈ l, IsBytes x.1
theorem part_bytes {l : List Ent} (h : checkX l = 0) (hn : NmB l) (j : Nat) : IsBytes (partB l j) := by
  obtain ⟨h1, h2⟩ := check_bd h
  unfold partB
  split
  · exact Wire.enc_bytes _
  · refine Wire.IsBytes.app (Wire.IsBytes.app (Wire.enc_bytes _) (Wire.enc_bytes _)) ?_
    intro y hy
    obtain ⟨x, hx, hxy⟩ := List.mem_flatMap.1 hy
    have hx' := List.mem_of_mem_take hx
    unfold entB at hxy
    rcases List.mem_append.1 hxy with q | q
    · rcases List.mem_append.1 q with q | q
      · rw [List.mem_singleton.1 q]; have := (h2 x hx').2.1; omega
      · exact hn x hx' y q
    · exact Wire.enc_bytes _ y q

set_option maxHeartbeats 16000000 in
set_option maxRecDepth 20000 in
theorem put_bad (A : Option Addr) (c : Nat) (l : List Ent) (w : World) (hr : ReadsE w A l) (hl : l.length ≤ 9223372036854775807) (hc : checkX l ≠ 0) :
    Calls Try.prog 25 #[.slice A l.length c] w fun e w' => e = .returned (.tuple #[.slice none 0 0, .int .i64 (checkX l)]) ∧ Ext w w' := by
  have HC := Lib.hid (check_c A c l w hr hl)
  obtain ⟨N, hN⟩ : ∃ N, checkX l = N := ⟨_, rfl⟩
  rw [hN] at hc HC ⊢
  have hn : (N : Int) ≠ 0 := by omega
  have hnb : ((N : Int) != 0) = true := by simpa using hn
  clear hN
  go_enter Try.func25, Try.ntmps25
  go_wp2_with fail
  refine HC.out.mono ?_
  rintro e w2 ⟨rfl, hx2⟩
  go_wp2_with fail
  go_ret2
  exact ⟨rfl, hx2⟩

set_option maxHeartbeats 16000000 in
set_option maxRecDepth 20000 in
theorem put_c (A : Option Addr) (c : Nat) (l : List Ent) (w : World) (hr : ReadsE w A l) (hc : checkX l = 0) (hn : NmB l) :
    Calls Try.prog 25 #[.slice A l.length c] w fun e w' => ∃ A' c', e = .returned (.tuple #[.slice A' (sumd (idxB l)).length c', .int .i64 0]) ∧ Reads w' .u8 A' (sumd (idxB l)) ∧ (sumd (idxB l)).length ≤ c' ∧ c' ≤ 9223372036854775807 ∧ Ext w w' := by
  have HR := Lib.hid hr
  have hb := check_bd hc
  have hl := hb.1
  have HBD := Lib.hid hb.2
  have HPL := Lib.hid (fun j => part_len hc j)
  have HPB := Lib.hid (fun j => part_bytes hc hn j)
  have HNM := Lib.hid hn
  have HC0 := check_c A c l w hr (by omega)
  rw [hc] at HC0
  have HC := Lib.hid HC0
  clear hr hb HC0
  obtain ⟨V, hV⟩ : ∃ V, idxB l = V := ⟨_, rfl⟩
  rw [hV]
  have HV := Lib.hid (show partB l l.length = V from hV)
  clear hV
  go_enter Try.func25, Try.ntmps25
  go_wp2_with fail
  refine HC.out.mono ?_
  rintro e w2 ⟨rfl, hx2⟩
  have HX2 := Lib.hid hx2
  have n1 := Wire.new_writer Lcl.emp (w := w2) (S := fun _ => False) (fun _ x => x)
  have H3 := Lib.hid n1.1.left_of_emp
  have ST3 := Lib.hid n1.2
  clear n1 hx2 HC
  go_wp2_with fail
  generalize w2.alloc (.cells #[.slice none 0 0] 70) = w3 at H3 ST3 ⊢
  generalize w2.heap.size = q at H3 ST3 ⊢
  refine ((Wire.uint_tri q [] l.length (by decide) (show l.length < 18446744073709551616 by omega)) _ _ H3.out).mono ?_
  rintro e w4 ⟨S4, ⟨rfl, h4⟩, st4⟩
  rw [List.nil_append] at h4
  have H4 := Lib.hid (show Wire.Wr q (partB l 0) w4 S4 from h4)
  have ST4 := Lib.hid (ST3.out.trans st4)
  clear h4 st4 H3 ST3
  go_wp2_with fail
  go_loopw [22] (fun v wq => ∃ j S, j ≤ l.length ∧ v = .int .i64 (j : Nat) ∧ Wire.Wr q (partB l j) wq S ∧ Step (fun _ => False) S w2 wq) (fun v _ => l.length - (intOf v).toNat)
  case atStart => exact ⟨0, S4, by omega, rfl, H4.out, ST4.out⟩
  case round =>
    obtain ⟨j, S5, hj, rfl, h5, st5⟩ := hrel
    clear H4 ST4
    have ST5 := Lib.hid st5
    have XW := Lib.hid (Ext.trans _ _ _ HX2.out (Wire.belowF st5))
    by_cases hj2 : j < l.length
    · have hj4 : decide ((j : Int) < (l.length : Int)) = true := by simp; omega
      have hbd := HBD.out _ (getD_mem hj2)
      have hnm := HNM.out _ (getD_mem hj2)
      have hps := part_step hj2
      have hpl := HPL.out (j + 1)
      have hpl0 := HPL.out j
      obtain ⟨b, o, rfl, hbk, c0, c1, c2⟩ := HR.out.ext XW.out j hj2
      obtain ⟨x, hx⟩ : ∃ x, l.getD j e0 = x := ⟨_, rfl⟩
      rw [hx] at c0 c1 c2 hbd hnm hps
      obtain ⟨nb, at_, sz⟩ := x
      have hszn : (strOfNums nb).size = nb.length := Crc.size_str nb
      simp only at c0 c1 c2 hnm hps
      have hbd2 : 1 ≤ nb.length ∧ nb.length ≤ 255 ∧ 0 ≤ at_ ∧ at_ ≤ 1048576 ∧ 1 ≤ sz ∧ sz ≤ 1048576 := hbd
      obtain ⟨an, rfl⟩ : ∃ an : Nat, at_ = (an : Int) := ⟨at_.toNat, by omega⟩
      obtain ⟨sn, rfl⟩ : ∃ sn : Nat, sz = (sn : Int) := ⟨sz.toNat, by omega⟩
      simp only [Int.toNat_natCast] at hps
      have hx9 : Ext wr (wr.alloc (.cells #[.string (strOfNums nb), .int .i64 an, .int .i64 sn] 55)) := (Below.refl _ _).alloc (Nat.le_refl _) _
      have hb9 := heap_alloc_new wr (.cells #[.string (strOfNums nb), .int .i64 an, .int .i64 sn] 55)
      have y0 := Blk.cell (S := fun q => q = wr.heap.size) ⟨hb9, fun _ => Iff.rfl⟩ 0
      have y1 := Blk.cell (S := fun q => q = wr.heap.size) ⟨hb9, fun _ => Iff.rfl⟩ 1
      have y2 := Blk.cell (S := fun q => q = wr.heap.size) ⟨hb9, fun _ => Iff.rfl⟩ 2
      simp only [List.getElem?_toArray, List.getElem?_cons_zero, List.getElem?_cons_succ] at y0 y1 y2
      have h9 := Ext.keep (Wire.loc_wr _ _) hx9 h5
      have st9 := st5.trans (show Step S5 S5 wr (wr.alloc (.cells #[.string (strOfNums nb), .int .i64 an, .int .i64 sn] 55)) from ⟨Keep.of_below hx9, fun _ h => .inl h⟩)
      have hns : ¬ S5 wr.heap.size := fun h => absurd ((Wire.loc_wr _ _).lt h5 h) (by omega)
      have H9 := Lib.hid h9
      have ST9 := Lib.hid st9
      have HNB := Lib.hid (show IsBytes nb from hnm)
      clear h9 st9 h5 st5 ST5 hb9 hx9 hbk hbd hnm
      by_cases j0 : j = 0
      · have d0 : decide ((j : Int) = 0) = true := by simp; omega
        have d0b : ((j : Int) == 0) = true := by simp; omega
        have hpq : partB l (j + 1) = partB l j ++ enc an ++ [(nb.length : Int)] ++ nb ++ enc sn := by rw [hps, if_pos j0]
        have hlen0 := congrArg List.length hpq
        simp only [List.length_append, List.length_singleton] at hlen0
        have hal : (partB l j).length + 10 ≤ 140737488355328 := by omega
        clear j0 hlen0
        go_wp2_with fail
        refine ((Wire.uint_tri q (partB l j) an (by omega) (show an < 18446744073709551616 by omega)) _ _ H9.out).mono ?_
        rintro e wa ⟨Sa, ⟨rfl, ha1⟩, sta⟩
        have HC1 := Lib.hid ha1
        have TC1 := Lib.hid sta
        have ya0 := sta.keep.cell y0 hns
        clear ha1 sta H9
        go_wp2_with fail
        generalize partB l j ++ enc an = Pq at HC1 hpq
        clear hps
        have hlen := congrArg List.length hpq
        simp only [List.length_append, List.length_singleton] at hlen
        have hPl : Pq.length + 1 + nb.length + (enc sn).length ≤ 300000 := by omega
        clear hlen
        refine ((Wire.byte_tri q Pq (nb.length : Int) (by omega)) _ _ HC1.out).mono ?_
        rintro e wb ⟨Sb, ⟨rfl, hb1⟩, stb⟩
        have Hb := Lib.hid hb1
        have Tb := Lib.hid (TC1.out.trans stb)
        obtain ⟨cv, wc, hcv, hrdc, hxc⟩ := conv_bytes HNB.out wb
        have yb0 := Tb.out.keep.cell y0 hns
        have Hc := Lib.hid (Ext.keep (Wire.loc_wr _ _) hxc Hb.out)
        have Tc := Lib.hid (Tb.out.trans (show Step Sb Sb wb wc from ⟨Keep.of_below hxc, fun _ h => .inl h⟩))
        have HRc := Lib.hid hrdc
        clear hb1 stb hrdc hxc HC1 TC1
        go_wp2_with fail
        refine (Wire.put_c q (Pq ++ [(nb.length : Int)]) (some ⟨wb.heap.size, 0, none⟩) cv nb wc Sb Hc.out HRc.out (by simp only [List.length_append, List.length_singleton]; omega)).mono ?_
        rintro e wd ⟨Sd, ⟨rfl, hd1⟩, std⟩
        have Hd := Lib.hid hd1
        have Td := Lib.hid (Tc.out.trans std)
        have yd2 := Td.out.keep.cell y2 hns
        clear hd1 std Hc Tc HRc Hb Tb hcv yb0
        go_wp2_with fail
        refine ((Wire.uint_tri q (Pq ++ [(nb.length : Int)] ++ nb) sn (by simp only [List.length_append, List.length_singleton]; omega) (show sn < 18446744073709551616 by omega)) _ _ Hd.out).mono ?_
        rintro e we ⟨Se, ⟨rfl, he1⟩, ste⟩
        rw [← hpq] at he1
        have He := Lib.hid he1
        have Te := Lib.hid (ST9.out.trans (Td.out.trans ste))
        clear he1 ste Hd Td hpq y0 y1 y2
        go_wp2_with fail
        go_roundw
        case rel => exact ⟨j + 1, Se, by omega, by go_num, He.out, Te.out⟩
        case measure => simp [intOf]; omega
      · have d0 : decide ((j : Int) = 0) = false := by simp; omega
        have d0b : ((j : Int) == 0) = false := by simp; omega
        have hpq : partB l (j + 1) = partB l j ++ [(nb.length : Int)] ++ nb ++ enc sn := by rw [hps, if_neg j0]
        have HC1 := H9
        have TC1 := Lib.hid (Step.refl S5 (wr.alloc (.cells #[.string (strOfNums nb), .int .i64 an, .int .i64 sn] 55)))
        clear H9 j0
        go_wp2_with fail
        generalize partB l j = Pq at HC1 hpq
        clear hps
        have hlen := congrArg List.length hpq
        simp only [List.length_append, List.length_singleton] at hlen
        have hPl : Pq.length + 1 + nb.length + (enc sn).length ≤ 300000 := by omega
        clear hlen
        refine ((Wire.byte_tri q Pq (nb.length : Int) (by omega)) _ _ HC1.out).mono ?_
        rintro e wb ⟨Sb, ⟨rfl, hb1⟩, stb⟩
        have Hb := Lib.hid hb1
        have Tb := Lib.hid (TC1.out.trans stb)
        obtain ⟨cv, wc, hcv, hrdc, hxc⟩ := conv_bytes HNB.out wb
        have yb0 := Tb.out.keep.cell y0 hns
        have Hc := Lib.hid (Ext.keep (Wire.loc_wr _ _) hxc Hb.out)
        have Tc := Lib.hid (Tb.out.trans (show Step Sb Sb wb wc from ⟨Keep.of_below hxc, fun _ h => .inl h⟩))
        have HRc := Lib.hid hrdc
        clear hb1 stb hrdc hxc HC1 TC1
        go_wp2_with fail
        refine (Wire.put_c q (Pq ++ [(nb.length : Int)]) (some ⟨wb.heap.size, 0, none⟩) cv nb wc Sb Hc.out HRc.out (by simp only [List.length_append, List.length_singleton]; omega)).mono ?_
        rintro e wd ⟨Sd, ⟨rfl, hd1⟩, std⟩
        have Hd := Lib.hid hd1
        have Td := Lib.hid (Tc.out.trans std)
        have yd2 := Td.out.keep.cell y2 hns
        clear hd1 std Hc Tc HRc Hb Tb hcv yb0
        go_wp2_with fail
        refine ((Wire.uint_tri q (Pq ++ [(nb.length : Int)] ++ nb) sn (by simp only [List.length_append, List.length_singleton]; omega) (show sn < 18446744073709551616 by omega)) _ _ Hd.out).mono ?_
        rintro e we ⟨Se, ⟨rfl, he1⟩, ste⟩
        rw [← hpq] at he1
        have He := Lib.hid he1
        have Te := Lib.hid (ST9.out.trans (Td.out.trans ste))
        clear he1 ste Hd Td hpq y0 y1 y2
        go_wp2_with fail
        go_roundw
        case rel => exact ⟨j + 1, Se, by omega, by go_num, He.out, Te.out⟩
        case measure => simp [intOf]; omega
    · obtain rfl : j = l.length := by omega
      have hbb := HPB.out l.length
      have hbl := HPL.out l.length
      rw [HV.out] at h5 hbb hbl
      have H5 := Lib.hid h5
      have HBB := Lib.hid hbb
      have hll : V.length ≤ 300000 := hbl
      clear h5 st5 hbb hbl
      go_wp2_with fail
      refine (Wire.wbytes_c q V (by omega) _ _ H5.out).mono ?_
      rintro e w9 ⟨A1, c1, rfl, hrd, hx9, _⟩
      have HRD := Lib.hid hrd
      have X9 := Lib.hid (Ext.trans _ _ _ XW.out hx9)
      clear hrd hx9
      go_wp2_with fail
      refine (Crc.put_calls w9 A1 c1 V HRD.out HBB.out (by omega)).mono ?_
      rintro e w10 ⟨A2, c2, S2, rfl, hrow, hst⟩
      rw [← sumd_len] at hrow ⊢
      have hrow' : Row 5 .u8 (.slice A2 (sumd V).length c2) (sumd V) w10 S2 := hrow
      obtain ⟨A3, c3, e3, hcap⟩ := hrow'.shape
      injection e3 with q1 q2 q3
      subst q1 q3
      have HRW := Lib.hid (show Reads w10 .u8 A2 (sumd V) from (readsAny hrow'))
      have HX9 := Lib.hid (show Ext w w10 from Ext.trans _ _ _ X9.out (Wire.belowF hst))
      have HCP := Lib.hid (show (sumd V).length ≤ c2 ∧ c2 ≤ 9223372036854775807 from hcap)
      clear hrow hst hrow' hcap q2
      go_wp2_with fail
      go_ret2
      exact ⟨A2, c2, rfl, HRW.out, HCP.out.1, HCP.out.2, HX9.out⟩
end Go.Proofs.Ytfpeeilenocaoaa.Idx
