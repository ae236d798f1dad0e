/- P20.2, P7: bits that are changed within 32 neighbours, in the head behind the name's length, or in the payload, with their sums: it isn't taken; nor is it cut, or longer: at every input, without conditions. -/
import Derived.Test.YtfpeeilenocaoaaFrameQ
import Derived.Test.YtfpeeilenocaoaaFrameR
namespace Go.Proofs.Ytfpeeilenocaoaa.Frame
open Go.RowKit Go.Proofs.Ytfpeeilenocaoaa.Own Go.Proofs.Ytfpeeilenocaoaa.Rely Go.Proofs.Ytfpeeilenocaoaa.Crc
attribute [local go_sem] max_ints min_ints

theorem size_al (w : World) (o : Obj) : (w.alloc o).heap.size = w.heap.size + 1 := by simp
/-- Told, of which only the error counts. -/
theorem told_err {w0 w : World} {t : Except Int (List Int × Nat × List Int)} {e : Ending} (h : Told w0 t e w) : ∃ f x, e = .returned (.tuple #[f, .int .i64 x]) ∧ Ext w0 w ∧ (∃ s k A n c, f = .agg #[.string s, .int .u8 k, .slice A n c]) ∧ (∀ y, t = .error y → x = y) ∧ (∀ r, t = .ok r → x = 0) := by
  obtain ⟨h1, h2⟩ := h
  cases t with
  | error y => exact ⟨_, y, h2, h1, ⟨_, 0, none, 0, 0, rfl⟩, fun z hz => (by cases hz; rfl), fun r hr => (by cases hr)⟩
  | ok t =>
    obtain ⟨nm, k, pay⟩ := t
    obtain ⟨A', c', h3, _⟩ := h2
    exact ⟨_, 0, h3, h1, ⟨_, (k : Int), A', pay.length, c', rfl⟩, fun z hz => (by cases hz), fun r hr => rfl⟩
theorem getD_mid {a b c : List Int} {q : Nat} (h : q < b.length) : (a ++ b ++ c).getD (a.length + q) 0 = b.getD q 0 := by
  rw [List.getD_eq_getElem?_getD, List.getD_eq_getElem?_getD, List.append_assoc, List.getElem?_append_right (by omega), Nat.add_sub_cancel_left, List.getElem?_append_left h]
theorem set_mid {a b c : List Int} {q : Nat} {v : Int} (h : q < b.length) : (a ++ b ++ c).set (a.length + q) v = a ++ b.set q v ++ c := by
  rw [List.append_assoc, List.set_append_right _ _ (by omega), Nat.add_sub_cancel_left, List.set_append_left _ _ h, List.append_assoc]
set_option maxHeartbeats 16000000 in
set_option maxRecDepth 20000 in
theorem spoilt_false (A1 : Option Addr) (c1 : Nat) (nm : List Int) (k : Int) (A2 : Option Addr) (c2 : Nat) (pay : List Int) (pos mask : Int) (A3 : Option Addr) (c3 : Nat) (more : List Int) (w : World) (h1 : ArgI w .u8 A1 c1 nm) (h2 : (Lit.int .u8 k).wf = true) (h3 : ArgI w .u8 A2 c2 pay) (hpos : (Lit.int .u16 pos).wf = true) (hmask : (Lit.int .u32 mask).wf = true) (h4 : ArgI w .u8 A3 c3 more) :
    Calls Try.prog 3 #[.agg #[.slice A1 nm.length c1, .int .u8 k, .slice A2 pay.length c2], .int .u16 pos, .int .u32 mask, .bool false, .slice A3 more.length c3] w fun e w' => e = .returned (.bool true) ∧ Below w.heap.size w w' := by
  have hkr := wf_u8 h2
  obtain ⟨kn, rfl⟩ : ∃ kn : Nat, k = (kn : Int) := ⟨k.toNat, by omega⟩
  have h32 := wf_u32 hmask
  have h16 := wf_u16 hpos
  obtain ⟨t, rfl⟩ := Int.eq_ofNat_of_zero_le h16.1
  obtain ⟨M, rfl⟩ := Int.eq_ofNat_of_zero_le h32.1
  have ht : t ≤ 65535 := by omega
  have hM := Lib.hid (show M < 4294967296 by omega)
  have HR := Lib.hid h3.reads
  have HN := Lib.hid h1.reads
  have HQ := Lib.hid h4.reads
  have HB := Lib.hid (show IsBytes pay from fun x hx => wf_u8 (h3.rng x hx))
  have HNB := Lib.hid (show IsBytes nm from fun x hx => wf_u8 (h1.rng x hx))
  have HQB := Lib.hid (show IsBytes more from fun x hx => wf_u8 (h4.rng x hx))
  have hx1 : Ext w (w.alloc (.cells #[.slice A1 nm.length c1, .int .u8 kn, .slice A2 pay.length c2] 24)) := (Below.refl _ _).alloc (Nat.le_refl _) _
  have hbk := heap_alloc_new w (.cells #[.slice A1 nm.length c1, .int .u8 kn, .slice A2 pay.length c2] 24)
  have HX1 := Lib.hid hx1
  have HBK := Lib.hid hbk
  clear h1 h2 h3 h4 hx1 hbk hpos hmask h16 h32
  go_enter Try.func3, Try.ntmps3
  go_wp2_with fail
  refine (awake20 _).mono ?_
  rintro e w1 ⟨rfl, hx1⟩
  have X1 := Lib.hid (Ext.trans _ _ _ HX1.out hx1)
  have HB1 := Lib.hid ((hx1.block _ (Array.getElem?_eq_some_iff.1 HBK.out).1).trans HBK.out)
  have k0 : w1.cell? ⟨w.heap.size, 0, none⟩ = some (.slice A1 nm.length c1) := Blk.cell (S := fun q => q = w.heap.size) ⟨HB1.out, fun _ => Iff.rfl⟩ 0
  have k1 : w1.cell? ⟨w.heap.size, 1, none⟩ = some (.int .u8 kn) := Blk.cell (S := fun q => q = w.heap.size) ⟨HB1.out, fun _ => Iff.rfl⟩ 1
  have k2 : w1.cell? ⟨w.heap.size, 2, none⟩ = some (.slice A2 pay.length c2) := Blk.cell (S := fun q => q = w.heap.size) ⟨HB1.out, fun _ => Iff.rfl⟩ 2
  clear hx1 HX1 HBK HB1
  by_cases hl : 100 < nm.length
  · have g1 : decide ((100 : Int) < (nm.length : Int)) = true := by simp; omega
    go_wp2_with fail
    go_ret
    exact ⟨rfl, X1.out⟩
  have g1 : decide ((100 : Int) < (nm.length : Int)) = false := by simp; omega
  by_cases hlp : 200 < pay.length
  · have g2 : decide ((200 : Int) < (pay.length : Int)) = true := by simp; omega
    go_wp2_with fail
    go_ret
    exact ⟨rfl, X1.out⟩
  have g2 : decide ((200 : Int) < (pay.length : Int)) = false := by simp; omega
  by_cases hlm : 20 < more.length
  · have g3 : decide ((20 : Int) < (more.length : Int)) = true := by simp; omega
    go_wp2_with fail
    go_ret
    exact ⟨rfl, X1.out⟩
  have g3 : decide ((20 : Int) < (more.length : Int)) = false := by simp; omega
  have HN1 := Lib.hid (Ext.reads X1.out HN.out)
  go_wp2_with fail
  refine (small_c A1 A2 c1 c2 pay.length nm kn w1 HN1.out (by omega) (by omega)).mono ?_
  rintro e w2 ⟨rfl, hx2⟩
  have X2 := Lib.hid (Ext.trans _ _ _ X1.out hx2)
  have hnl := nameS_len nm
  have HNS := Lib.hid (nameS_bytes HNB.out)
  have hnn : (nameS nm).length = nm.length + 1 := by omega
  obtain ⟨K6, hK6, hK6b⟩ : ∃ K6, kn % 6 = K6 ∧ K6 < 6 := ⟨_, rfl, Nat.mod_lt _ (by omega)⟩
  rw [hK6]
  clear hx2 k0 k1 k2 hK6 hkr g1 g2 g3 HN1 X1
  generalize nameS nm = nb at hnl hnn HNS
  have hnb1 : 1 ≤ nb.length := hnl.1
  have hnb2 : nb.length ≤ 101 := by omega
  clear hnl hnn hl HNB HN
  have hx3 : Ext w2 (w2.alloc (.cells #[.string (strOfNums nb), .int .u8 K6, .slice A2 pay.length c2] 30)) := (Below.refl _ _).alloc (Nat.le_refl _) _
  have hb3 := heap_alloc_new w2 (.cells #[.string (strOfNums nb), .int .u8 K6, .slice A2 pay.length c2] 30)
  have f0 := Blk.cell (S := fun q => q = w2.heap.size) ⟨hb3, fun _ => Iff.rfl⟩ 0
  have f1 := Blk.cell (S := fun q => q = w2.heap.size) ⟨hb3, fun _ => Iff.rfl⟩ 1
  have f2 := Blk.cell (S := fun q => q = w2.heap.size) ⟨hb3, fun _ => Iff.rfl⟩ 2
  simp only [List.getElem?_toArray, List.getElem?_cons_zero, List.getElem?_cons_succ] at f0 f1 f2
  have X3 := Lib.hid (Ext.trans _ _ _ X2.out hx3)
  have hck : checkF nb.length K6 pay.length = 0 := checkF_ok.2 ⟨by omega, by omega, hK6b, by omega⟩
  have HCK := Lib.hid hck
  have hp := put_c nb pay K6 c2 A2 _ (Ext.reads X3.out HR.out) HB.out HNS.out (by omega) hck
  have hfl := frame_len nb K6 pay
  obtain ⟨L, hL⟩ : ∃ L, (frameB nb K6 pay).length = L := ⟨_, rfl⟩
  rw [hL] at hp hfl
  have HL := Lib.hid hL
  have hLb : L ≤ 400 := by omega
  have hL15 : 15 ≤ L := by omega
  have HFL := Lib.hid hfl
  have HP := Lib.hid hp
  have hszn : (strOfNums nb).size = nb.length := Crc.size_str nb
  clear hp hx3 hb3 hck hL hfl X2
  go_wp2_with fail
  refine HP.out.mono ?_
  rintro e w4 ⟨A4, c4, rfl, hrd4, hc4, hc4m, hx4⟩
  have X4 := Lib.hid (Ext.trans _ _ _ X3.out hx4)
  have e0 := hx4.cell f0
  have e1 := hx4.cell f1
  have e2 := hx4.cell f2
  have HR4 := Lib.hid hrd4
  have HBF := Lib.hid (frame_bytes (k := K6) HNS.out HB.out (by omega) (by omega))
  clear hx4 HP f0 f1 f2 X3 hrd4 HR
  generalize w2.heap.size = pf at e0 e1 e2 ⊢
  have h5 := sepEmpty Lcl.emp (w := w4) (S := fun _ => False) (fun _ x => x) 5 .u8
  have HE := Lib.hid h5.1
  have ST5 := Lib.hid h5.2
  have HR5 := Lib.hid (Ext.reads (Wire.belowF ST5.out) HR4.out)
  have e05 := Ext.cell (Wire.belowF ST5.out) e0
  clear h5
  go_wp2_with (at_builtin; refine append_row _ rfl _ _ 22 rfl 5 .u8 1 Try.underlying22 Crc.info_u8 (by decide) _ [] (frameB nb K6 pay) A4 L c4 rfl rfl HL.out.symm Lcl.emp HE.out HR5.out (by rw [HL.out]; simp; omega) ?_; intro A' c' w' S' h' st'; simp only [List.length_nil, Nat.zero_add, List.nil_append] at h' ⊢; have h9 := h'.left_of_emp; obtain ⟨g, cap, eg, _, _⟩ := h9.form (by rw [HL.out]; omega); obtain ⟨A9, c9, e9, hc9, hc9m⟩ := h9.shape; injection eg with q1 q2 q3; injection e9 with q4 q5 q6; subst q1 q6 q3; rw [HL.out] at hc9; simp only [maxLen] at hc9m; have hnc : nb.length + 10 ≤ c' := (by have := HFL.out; omega); have hncn : ¬ (c' = nb.length + 10) := (by have := HFL.out; omega); have hLn : nb.length + 10 ≤ L := (by have := HFL.out; omega); have H' := Lib.hid h9; have ST' := Lib.hid (ST5.out.trans st'); have e06 := Ext.cell (Wire.belowF ST'.out) e0; clear h' st' e05 h9 q2 q4 q5)
  clear HR5 HE ST5 e06
  obtain ⟨pre, Y0, post, n0, HPT, hpl, hyl⟩ : ∃ pre Y0 post n0, RowKit.Hid (Part (frameB nb K6 pay) pre Y0 post n0) ∧ pre.length = 1 ∧ Y0.length = nb.length + 10 - 1 := ⟨_, _, _, _, Lib.hid (part_head HNS.out HB.out HCK.out).1, rfl, by rw [(part_head HNS.out HB.out HCK.out).2]; omega⟩
  obtain ⟨m, hm⟩ : ∃ m, nb.length + 10 - 1 = m := ⟨_, rfl⟩
  have hmL : 1 + m ≤ L := by have := HFL.out; omega
  have hm4 : 4 ≤ m := by have := HFL.out; omega
  have hm2 : m ≤ 210 := by have := HFL.out; omega
  have hYB0 : IsBytes Y0 := fun x hx => HBF.out x (by rw [HPT.out.whole]; simp [hx])
  have hpreB : IsBytes pre := fun x hx => HBF.out x (by rw [HPT.out.whole]; simp [hx])
  have hpostB : IsBytes post := fun x hx => HBF.out x (by rw [HPT.out.whole]; simp [hx])
  have hlen3 : pre.length + Y0.length + post.length = L := by
    have := congrArg List.length HPT.out.whole
    rw [HL.out, List.length_append, List.length_append] at this
    omega
  obtain ⟨F, hF⟩ : ∃ F, t % (8 * m - 31) = F := ⟨_, rfl⟩
  have hFm : F < 8 * m - 31 := by rw [← hF]; exact Nat.mod_lt _ (by omega)
  have hFi : (t : Int) % (8 * (((nb.length : Int) + 9)) - 31) = (F : Int) := by
    rw [← hF, Int.natCast_emod, show ((8 * m - 31 : Nat) : Int) = 8 * (((nb.length : Int) + 9)) - 31 by omega]
  rw [hm] at hyl ⊢
  rw [hFi]
  have HPL := Lib.hid hpl
  have HYL0 := Lib.hid hyl
  have HYB0 := Lib.hid hYB0
  have HPRE := Lib.hid hpreB
  have HPOST := Lib.hid hpostB
  have HL3 := Lib.hid hlen3
  clear hFi hF hpl hyl hYB0 hpreB hpostB hlen3 hm hszn hnc hncn hLn
  go_loopw [73] (fun v wr => ∃ (k : Nat) (Y : List Int) (S : Nat → Prop), k ≤ 32 ∧ v = .int .i64 k ∧ Y.length = m ∧ IsBytes Y ∧ (M % 2 ^ k = 0 → Y = Y0) ∧ crcs n0 Y = RES ^^^ sts (8 * m - F) (BitVec.ofNat 32 (M % 2 ^ k)) ∧ Row 5 .u8 (.slice (some ⟨g, 0, none⟩) L c') (pre ++ Y ++ post) wr S ∧ Step (fun _ => False) S w4 wr) (fun v _ => 32 - (intOf v).toNat)
  case atStart =>
    refine ⟨0, Y0, S', by omega, rfl, HYL0.out, HYB0.out, fun _ => rfl, by rw [HPT.out.crc, Nat.pow_zero, Nat.mod_one, show BitVec.ofNat 32 0 = 0#32 by decide, sts_zero, BitVec.xor_zero], ?_, ST'.out⟩
    rw [← HPT.out.whole]
    exact H'.out
  case round =>
    clear H' ST'
    obtain ⟨k, Y, S, hk, rfl, hYl, hYb, hY0, hYc, hrow, st⟩ := hrel
    have HROW := Lib.hid hrow
    have ST := Lib.hid st
    have HYL := Lib.hid hYl
    have HYB := Lib.hid hYb
    have HYC := Lib.hid hYc
    have HY0 := Lib.hid hY0
    by_cases h32 : k < 32
    · have hand := and1_u32 (M / 2 ^ k)
      rw [show ((M / 2 ^ k : Nat) : Int) = (M : Int) / 2 ^ k by rw [Int.natCast_ediv, Int.natCast_pow]; rfl] at hand
      obtain ⟨b, hb⟩ : ∃ b, M / 2 ^ k % 2 = b := ⟨_, rfl⟩
      rw [hb] at hand
      have hb2 : b = 0 ∨ b = 1 := by omega
      rcases hb2 with rfl | rfl
      · have HN := Lib.hid (mask_same M k hb)
        clear hrow st hYl hYb hYc hb hY0
        go_wp2_with fail
        go_roundw
        case rel => exact ⟨k + 1, Y, S, by omega, rfl, HYL.out, HYB.out, by rw [HN.out]; exact HY0.out, by rw [HN.out]; exact HYC.out, HROW.out, ST.out⟩
        case measure => simp [intOf]; omega
      · have HN := Lib.hid (mask_step M k h32 hb)
        have HNZ := Lib.hid (show M % 2 ^ (k + 1) ≠ 0 by
          rw [Nat.mod_pow_succ, hb]
          have : 0 < 2 ^ k := Nat.two_pow_pos k
          omega)
        obtain ⟨q, hq⟩ : ∃ q, (F + k) / 8 = q := ⟨_, rfl⟩
        obtain ⟨e, he⟩ : ∃ e, (F + k) % 8 = e := ⟨_, rfl⟩
        have hqm : q < m := by omega
        have f0 := hrow.free (1 + q)
        have c0 := hrow.cell (i := 1 + q) (by rw [List.length_append, List.length_append, HPL.out, hYl]; omega)
        obtain ⟨z, hz⟩ : ∃ z, Y.getD q 0 = z := ⟨_, rfl⟩
        have hgm := getD_mid (a := pre) (b := Y) (c := post) (q := q) (by omega)
        rw [HPL.out, hz] at hgm
        rw [hgm] at c0
        clear hrow st hYl hYb hYc hb hgm hY0
        go_wp2_with fail
        go_big_region
        have he8 : e < 8 := by rw [← he]; exact Nat.mod_lt _ (by omega)
        have hpow : (2 : Int) ^ e % 256 = ((2 ^ e : Nat) : Int) := by
          have key : ∀ e : Fin 8, (2 : Int) ^ e.val % 256 = ((2 ^ e.val : Nat) : Int) := by decide
          exact key ⟨e, he8⟩
        have hs := Row.set HROW.out (1 + q) (bits .xor .u8 z (2 ^ e % 256))
        have hsm := set_mid (a := pre) (b := Y) (c := post) (q := q) (v := bits .xor .u8 z (2 ^ e % 256)) (by rw [HYL.out]; omega)
        rw [HPL.out] at hsm
        rw [hsm] at hs
        have hl := burst_bit HYB.out (F := F) (k := k) (by rw [HYL.out]; omega) h32 n0
        rw [hq, he, hz, HYL.out] at hl
        have HL9 := Lib.hid hl
        have HS := Lib.hid (show Row 5 .u8 (.slice (some ⟨g, 0, none⟩) L c') (pre ++ Y.set q (bits .xor .u8 z (2 ^ e % 256)) ++ post) (wr.setCell ⟨g, 1 + q, none⟩ (.int .u8 (bits .xor .u8 z (2 ^ e % 256)))).drew S ∧ Step (fun _ => False) S w4 (wr.setCell ⟨g, 1 + q, none⟩ (.int .u8 (bits .xor .u8 z (2 ^ e % 256)))).drew from
          ⟨(Lcl.row _ _ _ _).drew hs.1, (ST.out.trans hs.2).drew⟩)
        have HPOW := Lib.hid hpow
        clear hs hl hpow hsm
        go_wp2_with fail
        go_roundw
        case rel =>
          refine ⟨k + 1, Y.set q (bits .xor .u8 z (2 ^ e % 256)), S, by omega, rfl, by rw [List.length_set]; exact HYL.out, set_bytes HYB.out q (xor_byte _ _), fun h => absurd h HNZ.out, ?_, HS.out.1, HS.out.2⟩
          rw [HPOW.out, HL9.out, HYC.out, HN.out, sts_xor, BitVec.xor_assoc]
        case measure => simp [intOf]; omega
    · obtain rfl : k = 32 := by omega
      rw [Nat.mod_eq_of_lt (show M < 2 ^ 32 from hM.out)] at hYc hY0
      obtain ⟨X, hX⟩ : ∃ X, pre ++ Y ++ post = X := ⟨_, rfl⟩
      have hXb : IsBytes X := by
        rw [← hX]
        intro x hx
        rcases List.mem_append.1 hx with hx | hx
        · rcases List.mem_append.1 hx with hx | hx
          · exact HPRE.out x hx
          · exact hYb x hx
        · exact HPOST.out x hx
      have hXl : X.length = L := by
        rw [← hX, List.length_append, List.length_append, hYl]
        have := HL3.out
        rw [HYL0.out] at this
        exact this
      have HT0 := Lib.hid (show M = 0 → takeF X = .ok (nb, K6, pay) from fun h => by
        rw [← hX, hY0 h, ← HPT.out.whole]
        exact take_put HNS.out HB.out HCK.out)
      have HT1 := Lib.hid (show M ≠ 0 → takeF X = .error 10 from fun h => by
        rw [← hX]
        exact HPT.out.bad Y M (8 * m - F) (by rw [hYl, HYL0.out]) hYb hM.out h hYc)
      rw [hX] at hrow
      have hr := take_c (some ⟨g, 0, none⟩) c' X wr (readsAny hrow) hXb (by omega) (by omega) (by omega)
      rw [hXl] at hr
      have HTK := Lib.hid hr
      have XR := Lib.hid (Wire.belowF st)
      clear hrow st hYl hYb hYc hr hX hXb hXl hY0 HROW ST HYL HYB HYC HY0 HPT HYL0 HYB0 HPRE HPOST HL3 HPL hM
      go_wp2_with fail
      refine HTK.out.mono ?_
      rintro e w5 ht
      obtain ⟨v1, x1, rfl, hx5, ⟨s1, k1, A5, n5, c5, rfl⟩, he1, ho1⟩ := told_err ht
      have hxa : Ext w5 (w5.alloc (.cells #[.string s1, .int .u8 k1, .slice A5 n5 c5] 30)) := (Below.refl _ _).alloc (Nat.le_refl _) _
      have X5 := Lib.hid (Ext.trans _ _ _ XR.out (Ext.trans _ _ _ hx5 hxa))
      have HE1 := Lib.hid (show (M = 0 → x1 = 0) ∧ (M ≠ 0 → x1 = 10) from ⟨fun h => ho1 _ (HT0.out h), fun h => he1 _ (HT1.out h)⟩)
      have HR5 := Lib.hid (Ext.reads X5.out HR4.out)
      clear ht hx5 hxa he1 ho1 HT0 HT1 HTK XR
      obtain ⟨i, hi, hiL⟩ : ∃ i, t % L = i ∧ i < L := ⟨_, rfl, Nat.mod_lt _ (by omega)⟩
      have hti : (t : Int) % (L : Int) = (i : Int) := by rw [← hi]; rfl
      have hic : i ≤ c4 := by omega
      have hpl : ((frameB nb K6 pay).take i).length = i := by rw [List.length_take, HL.out]; omega
      have hr := take_c A4 c4 ((frameB nb K6 pay).take i) _ (HR5.out.take i) (fun x hx => HBF.out x (List.mem_of_mem_take hx)) (by omega) (by omega) hc4m
      rw [hpl] at hr
      have HTK := Lib.hid hr
      have HSH := Lib.hid (take_short HNS.out HB.out HCK.out (i := i) (by rw [HL.out]; exact hiL))
      clear hr hpl hi
      go_wp2_with fail
      refine HTK.out.mono ?_
      rintro e w6 ht
      obtain ⟨v2, x2, rfl, hx6, ⟨s2, k2, A6, n6, c6, rfl⟩, he2, _⟩ := told_err ht
      obtain ⟨y2, hy2, hy20⟩ := HSH.out
      have hx20 : x2 ≠ 0 := by rw [he2 _ hy2]; exact hy20
      have hx2b : (x2 != 0) = true := by simpa using hx20
      have hxb : Ext w6 (w6.alloc (.cells #[.string s2, .int .u8 k2, .slice A6 n6 c6] 30)) := (Below.refl _ _).alloc (Nat.le_refl _) _
      have X6 := Lib.hid (Ext.trans _ _ _ X5.out (Ext.trans _ _ _ hx6 hxb))
      clear ht hx6 hxb he2 hy2 hy20 hx20 HTK HSH HR5 X5 hti
      have h7 := sepEmpty Lcl.emp (w := w6.alloc (.cells #[.string s2, .int .u8 k2, .slice A6 n6 c6] 30)) (S := fun _ => False) (fun _ x => x) 5 .u8
      have h7a := h7.1
      have h7b := h7.2
      rw [size_al w6] at h7a h7b
      have HE := Lib.hid h7a
      have ST7 := Lib.hid h7b
      have HR7 := Lib.hid (Ext.reads (Ext.trans _ _ _ X6.out (Wire.belowF ST7.out)) HR4.out)
      clear h7 h7a h7b
      go_wp2_with (first
        | (at_builtin; refine append_row _ rfl _ _ 22 rfl 5 .u8 1 Try.underlying22 Crc.info_u8 (by decide) _ [] (frameB nb K6 pay) A4 L c4 rfl rfl HL.out.symm Lcl.emp HE.out HR7.out (by rw [HL.out]; simp; omega) ?_; intro A8 c8 w8 S8 h8 st8; simp only [List.length_nil, Nat.zero_add, List.nil_append] at h8 ⊢; have H8 := Lib.hid h8.left_of_emp; have ST8 := Lib.hid (ST7.out.trans st8); have HQ8 := Lib.hid (Ext.reads (Ext.trans _ _ _ X4.out (Ext.trans _ _ _ X6.out (Wire.belowF ST8.out))) HQ.out); clear h8 st8)
        | (at_builtin; refine append_row _ rfl _ _ 22 rfl 5 .u8 1 Try.underlying22 Crc.info_u8 (by decide) _ (frameB nb K6 pay) more A3 more.length c3 rfl rfl rfl Lcl.emp H8.out.sepEmp HQ8.out (by rw [HL.out]; omega) ?_; intro A9 c9 w9 S9 h9 st9; rw [HL.out] at h9 ⊢; have h9b := h9.left_of_emp; obtain ⟨_, _, e9, hc9a, hc9b⟩ := h9b.shape; injection e9 with qa _ q9; subst qa q9; rw [List.length_append, HL.out] at hc9a; simp only [maxLen] at hc9b; have H9 := Lib.hid h9b; have ST9 := Lib.hid (ST8.out.trans st9); clear h9 st9 h9b))
      have hr := fun A hrd => take_c A c9 (frameB nb K6 pay ++ more) w9 hrd (fun x hx => (List.mem_append.1 hx).elim (HBF.out x) (HQB.out x)) (by rw [List.length_append, HL.out]; omega) (by rw [List.length_append, HL.out]; omega) (by omega)
      rw [List.length_append] at hr
      have HTK := Lib.hid hr
      have XZ := Lib.hid (Ext.trans _ _ _ X4.out (Ext.trans _ _ _ X6.out (Wire.belowF ST9.out)))
      clear hr ST7 HR7 H8 ST8 HQ8 HE X6 ST9
      refine (HTK.out _ (readsAny H9.out)).mono ?_
      rintro e w10 ht
      obtain ⟨v3, x3, rfl, hx10, ⟨s3, k3, A10, n10, c10, rfl⟩, he3, ho3⟩ := told_err ht
      have hxc : Ext w10 (w10.alloc (.cells #[.string s3, .int .u8 k3, .slice A10 n10 c10] 30)) := (Below.refl _ _).alloc (Nat.le_refl _) _
      have X10 := Lib.hid (Ext.trans _ _ _ XZ.out (Ext.trans _ _ _ hx10 hxc))
      have hx3 : (x3 == 0) = decide (more.length = 0) := by
        by_cases h0 : more = []
        · have := ho3 _ (show takeF (frameB nb K6 pay ++ more) = .ok (nb, K6, pay) by rw [h0, List.append_nil]; exact take_put HNS.out HB.out HCK.out)
          rw [this, h0]; rfl
        · obtain ⟨y3, hy3, hy30⟩ := take_long HNS.out HB.out HQB.out HCK.out h0
          have := he3 _ hy3
          rw [this]
          have hl0 : ¬ more.length = 0 := fun h => h0 (List.eq_nil_of_length_eq_zero h)
          rw [decide_eq_false hl0]
          simpa using hy30
      have hm0 : ((more.length : Int) == 0) = decide (more.length = 0) := by
        by_cases h0 : more.length = 0
        · rw [decide_eq_true h0, h0]; rfl
        · rw [decide_eq_false h0]; simpa using h0
      obtain ⟨bm, hbm⟩ : ∃ bm, decide (more.length = 0) = bm := ⟨_, rfl⟩
      rw [hbm] at hx3 hm0
      have hbb : (bm == bm) = true := by cases bm <;> rfl
      clear ht hx10 hxc he3 ho3 HTK XZ H9 hbm
      by_cases hM0 : M = 0
      · obtain rfl := HE1.out.1 hM0
        subst hM0
        go_wp2_with fail
        go_ret
        exact ⟨rfl, X10.out⟩
      · obtain rfl := HE1.out.2 hM0
        have hm1 : ((M : Int) == 0) = false := by simpa using hM0
        go_wp2_with fail
        go_ret
        exact ⟨rfl, X10.out⟩
set_option maxHeartbeats 16000000 in
set_option maxRecDepth 20000 in
theorem spoilt_true (A1 : Option Addr) (c1 : Nat) (nm : List Int) (k : Int) (A2 : Option Addr) (c2 : Nat) (pay : List Int) (pos mask : Int) (A3 : Option Addr) (c3 : Nat) (more : List Int) (w : World) (h1 : ArgI w .u8 A1 c1 nm) (h2 : (Lit.int .u8 k).wf = true) (h3 : ArgI w .u8 A2 c2 pay) (hpos : (Lit.int .u16 pos).wf = true) (hmask : (Lit.int .u32 mask).wf = true) (h4 : ArgI w .u8 A3 c3 more) :
    Calls Try.prog 3 #[.agg #[.slice A1 nm.length c1, .int .u8 k, .slice A2 pay.length c2], .int .u16 pos, .int .u32 mask, .bool true, .slice A3 more.length c3] w fun e w' => e = .returned (.bool true) ∧ Below w.heap.size w w' := by
  have hkr := wf_u8 h2
  obtain ⟨kn, rfl⟩ : ∃ kn : Nat, k = (kn : Int) := ⟨k.toNat, by omega⟩
  have h32 := wf_u32 hmask
  have h16 := wf_u16 hpos
  obtain ⟨t, rfl⟩ := Int.eq_ofNat_of_zero_le h16.1
  obtain ⟨M, rfl⟩ := Int.eq_ofNat_of_zero_le h32.1
  have ht : t ≤ 65535 := by omega
  have hM := Lib.hid (show M < 4294967296 by omega)
  have HR := Lib.hid h3.reads
  have HN := Lib.hid h1.reads
  have HQ := Lib.hid h4.reads
  have HB := Lib.hid (show IsBytes pay from fun x hx => wf_u8 (h3.rng x hx))
  have HNB := Lib.hid (show IsBytes nm from fun x hx => wf_u8 (h1.rng x hx))
  have HQB := Lib.hid (show IsBytes more from fun x hx => wf_u8 (h4.rng x hx))
  have hx1 : Ext w (w.alloc (.cells #[.slice A1 nm.length c1, .int .u8 kn, .slice A2 pay.length c2] 24)) := (Below.refl _ _).alloc (Nat.le_refl _) _
  have hbk := heap_alloc_new w (.cells #[.slice A1 nm.length c1, .int .u8 kn, .slice A2 pay.length c2] 24)
  have HX1 := Lib.hid hx1
  have HBK := Lib.hid hbk
  clear h1 h2 h3 h4 hx1 hbk hpos hmask h16 h32
  go_enter Try.func3, Try.ntmps3
  go_wp2_with fail
  refine (awake20 _).mono ?_
  rintro e w1 ⟨rfl, hx1⟩
  have X1 := Lib.hid (Ext.trans _ _ _ HX1.out hx1)
  have HB1 := Lib.hid ((hx1.block _ (Array.getElem?_eq_some_iff.1 HBK.out).1).trans HBK.out)
  have k0 : w1.cell? ⟨w.heap.size, 0, none⟩ = some (.slice A1 nm.length c1) := Blk.cell (S := fun q => q = w.heap.size) ⟨HB1.out, fun _ => Iff.rfl⟩ 0
  have k1 : w1.cell? ⟨w.heap.size, 1, none⟩ = some (.int .u8 kn) := Blk.cell (S := fun q => q = w.heap.size) ⟨HB1.out, fun _ => Iff.rfl⟩ 1
  have k2 : w1.cell? ⟨w.heap.size, 2, none⟩ = some (.slice A2 pay.length c2) := Blk.cell (S := fun q => q = w.heap.size) ⟨HB1.out, fun _ => Iff.rfl⟩ 2
  clear hx1 HX1 HBK HB1
  by_cases hl : 100 < nm.length
  · have g1 : decide ((100 : Int) < (nm.length : Int)) = true := by simp; omega
    go_wp2_with fail
    go_ret
    exact ⟨rfl, X1.out⟩
  have g1 : decide ((100 : Int) < (nm.length : Int)) = false := by simp; omega
  by_cases hlp : 200 < pay.length
  · have g2 : decide ((200 : Int) < (pay.length : Int)) = true := by simp; omega
    go_wp2_with fail
    go_ret
    exact ⟨rfl, X1.out⟩
  have g2 : decide ((200 : Int) < (pay.length : Int)) = false := by simp; omega
  by_cases hlm : 20 < more.length
  · have g3 : decide ((20 : Int) < (more.length : Int)) = true := by simp; omega
    go_wp2_with fail
    go_ret
    exact ⟨rfl, X1.out⟩
  have g3 : decide ((20 : Int) < (more.length : Int)) = false := by simp; omega
  have HN1 := Lib.hid (Ext.reads X1.out HN.out)
  go_wp2_with fail
  refine (small_c A1 A2 c1 c2 pay.length nm kn w1 HN1.out (by omega) (by omega)).mono ?_
  rintro e w2 ⟨rfl, hx2⟩
  have X2 := Lib.hid (Ext.trans _ _ _ X1.out hx2)
  have hnl := nameS_len nm
  have HNS := Lib.hid (nameS_bytes HNB.out)
  have hnn : (nameS nm).length = nm.length + 1 := by omega
  obtain ⟨K6, hK6, hK6b⟩ : ∃ K6, kn % 6 = K6 ∧ K6 < 6 := ⟨_, rfl, Nat.mod_lt _ (by omega)⟩
  rw [hK6]
  clear hx2 k0 k1 k2 hK6 hkr g1 g2 g3 HN1 X1
  generalize nameS nm = nb at hnl hnn HNS
  have hnb1 : 1 ≤ nb.length := hnl.1
  have hnb2 : nb.length ≤ 101 := by omega
  clear hnl hnn hl HNB HN
  have hx3 : Ext w2 (w2.alloc (.cells #[.string (strOfNums nb), .int .u8 K6, .slice A2 pay.length c2] 30)) := (Below.refl _ _).alloc (Nat.le_refl _) _
  have hb3 := heap_alloc_new w2 (.cells #[.string (strOfNums nb), .int .u8 K6, .slice A2 pay.length c2] 30)
  have f0 := Blk.cell (S := fun q => q = w2.heap.size) ⟨hb3, fun _ => Iff.rfl⟩ 0
  have f1 := Blk.cell (S := fun q => q = w2.heap.size) ⟨hb3, fun _ => Iff.rfl⟩ 1
  have f2 := Blk.cell (S := fun q => q = w2.heap.size) ⟨hb3, fun _ => Iff.rfl⟩ 2
  simp only [List.getElem?_toArray, List.getElem?_cons_zero, List.getElem?_cons_succ] at f0 f1 f2
  have X3 := Lib.hid (Ext.trans _ _ _ X2.out hx3)
  have hck : checkF nb.length K6 pay.length = 0 := checkF_ok.2 ⟨by omega, by omega, hK6b, by omega⟩
  have HCK := Lib.hid hck
  have hp := put_c nb pay K6 c2 A2 _ (Ext.reads X3.out HR.out) HB.out HNS.out (by omega) hck
  have hfl := frame_len nb K6 pay
  obtain ⟨L, hL⟩ : ∃ L, (frameB nb K6 pay).length = L := ⟨_, rfl⟩
  rw [hL] at hp hfl
  have HL := Lib.hid hL
  have hLb : L ≤ 400 := by omega
  have hL15 : 15 ≤ L := by omega
  have HFL := Lib.hid hfl
  have HP := Lib.hid hp
  have hszn : (strOfNums nb).size = nb.length := Crc.size_str nb
  clear hp hx3 hb3 hck hL hfl X2
  go_wp2_with fail
  refine HP.out.mono ?_
  rintro e w4 ⟨A4, c4, rfl, hrd4, hc4, hc4m, hx4⟩
  have X4 := Lib.hid (Ext.trans _ _ _ X3.out hx4)
  have e0 := hx4.cell f0
  have e1 := hx4.cell f1
  have e2 := hx4.cell f2
  have HR4 := Lib.hid hrd4
  have HBF := Lib.hid (frame_bytes (k := K6) HNS.out HB.out (by omega) (by omega))
  clear hx4 HP f0 f1 f2 X3 hrd4 HR
  generalize w2.heap.size = pf at e0 e1 e2 ⊢
  have h5 := sepEmpty Lcl.emp (w := w4) (S := fun _ => False) (fun _ x => x) 5 .u8
  have HE := Lib.hid h5.1
  have ST5 := Lib.hid h5.2
  have HR5 := Lib.hid (Ext.reads (Wire.belowF ST5.out) HR4.out)
  have e05 := Ext.cell (Wire.belowF ST5.out) e0
  clear h5
  go_wp2_with (at_builtin; refine append_row _ rfl _ _ 22 rfl 5 .u8 1 Try.underlying22 Crc.info_u8 (by decide) _ [] (frameB nb K6 pay) A4 L c4 rfl rfl HL.out.symm Lcl.emp HE.out HR5.out (by rw [HL.out]; simp; omega) ?_; intro A' c' w' S' h' st'; simp only [List.length_nil, Nat.zero_add, List.nil_append] at h' ⊢; have h9 := h'.left_of_emp; obtain ⟨g, cap, eg, _, _⟩ := h9.form (by rw [HL.out]; omega); obtain ⟨A9, c9, e9, hc9, hc9m⟩ := h9.shape; injection eg with q1 q2 q3; injection e9 with q4 q5 q6; subst q1 q6 q3; rw [HL.out] at hc9; simp only [maxLen] at hc9m; have hnc : nb.length + 10 ≤ c' := (by have := HFL.out; omega); have hncn : ¬ (c' = nb.length + 10) := (by have := HFL.out; omega); have hLn : nb.length + 10 ≤ L := (by have := HFL.out; omega); have H' := Lib.hid h9; have ST' := Lib.hid (ST5.out.trans st'); have e06 := Ext.cell (Wire.belowF ST'.out) e0; clear h' st' e05 h9 q2 q4 q5)
  clear HR5 HE ST5 e06
  obtain ⟨pre, Y0, post, n0, HPT, hpl, hyl⟩ : ∃ pre Y0 post n0, RowKit.Hid (Part (frameB nb K6 pay) pre Y0 post n0) ∧ pre.length = (nb.length + 10) ∧ Y0.length = L - (nb.length + 10) := ⟨_, _, _, _, Lib.hid (part_tail HNS.out HB.out HCK.out).1, (part_tail HNS.out HB.out HCK.out).2, by rw [sumd_len]; have := HFL.out; omega⟩
  obtain ⟨m, hm⟩ : ∃ m, L - (nb.length + 10) = m := ⟨_, rfl⟩
  have hmL : (nb.length + 10) + m ≤ L := by have := HFL.out; omega
  have hm4 : 4 ≤ m := by have := HFL.out; omega
  have hm2 : m ≤ 210 := by have := HFL.out; omega
  have hYB0 : IsBytes Y0 := fun x hx => HBF.out x (by rw [HPT.out.whole]; simp [hx])
  have hpreB : IsBytes pre := fun x hx => HBF.out x (by rw [HPT.out.whole]; simp [hx])
  have hpostB : IsBytes post := fun x hx => HBF.out x (by rw [HPT.out.whole]; simp [hx])
  have hlen3 : pre.length + Y0.length + post.length = L := by
    have := congrArg List.length HPT.out.whole
    rw [HL.out, List.length_append, List.length_append] at this
    omega
  obtain ⟨F, hF⟩ : ∃ F, t % (8 * m - 31) = F := ⟨_, rfl⟩
  have hFm : F < 8 * m - 31 := by rw [← hF]; exact Nat.mod_lt _ (by omega)
  have hFi : (t : Int) % (8 * ((m : Int)) - 31) = (F : Int) := by
    rw [← hF, Int.natCast_emod, show ((8 * m - 31 : Nat) : Int) = 8 * ((m : Int)) - 31 by omega]
  rw [hm] at hyl ⊢
  rw [hFi]
  have HPL := Lib.hid hpl
  have HYL0 := Lib.hid hyl
  have HYB0 := Lib.hid hYB0
  have HPRE := Lib.hid hpreB
  have HPOST := Lib.hid hpostB
  have HL3 := Lib.hid hlen3
  clear hFi hF hpl hyl hYB0 hpreB hpostB hlen3 hm hszn hnc hncn hLn
  go_loopw [73] (fun v wr => ∃ (k : Nat) (Y : List Int) (S : Nat → Prop), k ≤ 32 ∧ v = .int .i64 k ∧ Y.length = m ∧ IsBytes Y ∧ (M % 2 ^ k = 0 → Y = Y0) ∧ crcs n0 Y = RES ^^^ sts (8 * m - F) (BitVec.ofNat 32 (M % 2 ^ k)) ∧ Row 5 .u8 (.slice (some ⟨g, 0, none⟩) L c') (pre ++ Y ++ post) wr S ∧ Step (fun _ => False) S w4 wr) (fun v _ => 32 - (intOf v).toNat)
  case atStart =>
    refine ⟨0, Y0, S', by omega, rfl, HYL0.out, HYB0.out, fun _ => rfl, by rw [HPT.out.crc, Nat.pow_zero, Nat.mod_one, show BitVec.ofNat 32 0 = 0#32 by decide, sts_zero, BitVec.xor_zero], ?_, ST'.out⟩
    rw [← HPT.out.whole]
    exact H'.out
  case round =>
    clear H' ST'
    obtain ⟨k, Y, S, hk, rfl, hYl, hYb, hY0, hYc, hrow, st⟩ := hrel
    have HROW := Lib.hid hrow
    have ST := Lib.hid st
    have HYL := Lib.hid hYl
    have HYB := Lib.hid hYb
    have HYC := Lib.hid hYc
    have HY0 := Lib.hid hY0
    by_cases h32 : k < 32
    · have hand := and1_u32 (M / 2 ^ k)
      rw [show ((M / 2 ^ k : Nat) : Int) = (M : Int) / 2 ^ k by rw [Int.natCast_ediv, Int.natCast_pow]; rfl] at hand
      obtain ⟨b, hb⟩ : ∃ b, M / 2 ^ k % 2 = b := ⟨_, rfl⟩
      rw [hb] at hand
      have hb2 : b = 0 ∨ b = 1 := by omega
      rcases hb2 with rfl | rfl
      · have HN := Lib.hid (mask_same M k hb)
        clear hrow st hYl hYb hYc hb hY0
        go_wp2_with fail
        go_roundw
        case rel => exact ⟨k + 1, Y, S, by omega, rfl, HYL.out, HYB.out, by rw [HN.out]; exact HY0.out, by rw [HN.out]; exact HYC.out, HROW.out, ST.out⟩
        case measure => simp [intOf]; omega
      · have HN := Lib.hid (mask_step M k h32 hb)
        have HNZ := Lib.hid (show M % 2 ^ (k + 1) ≠ 0 by
          rw [Nat.mod_pow_succ, hb]
          have : 0 < 2 ^ k := Nat.two_pow_pos k
          omega)
        obtain ⟨q, hq⟩ : ∃ q, (F + k) / 8 = q := ⟨_, rfl⟩
        obtain ⟨e, he⟩ : ∃ e, (F + k) % 8 = e := ⟨_, rfl⟩
        have hqm : q < m := by omega
        have f0 := hrow.free ((nb.length + 10) + q)
        have c0 := hrow.cell (i := (nb.length + 10) + q) (by rw [List.length_append, List.length_append, HPL.out, hYl]; omega)
        obtain ⟨z, hz⟩ : ∃ z, Y.getD q 0 = z := ⟨_, rfl⟩
        have hgm := getD_mid (a := pre) (b := Y) (c := post) (q := q) (by omega)
        rw [HPL.out, hz] at hgm
        rw [hgm] at c0
        clear hrow st hYl hYb hYc hb hgm hY0
        go_wp2_with fail
        go_big_region
        have he8 : e < 8 := by rw [← he]; exact Nat.mod_lt _ (by omega)
        have hpow : (2 : Int) ^ e % 256 = ((2 ^ e : Nat) : Int) := by
          have key : ∀ e : Fin 8, (2 : Int) ^ e.val % 256 = ((2 ^ e.val : Nat) : Int) := by decide
          exact key ⟨e, he8⟩
        have hs := Row.set HROW.out ((nb.length + 10) + q) (bits .xor .u8 z (2 ^ e % 256))
        have hsm := set_mid (a := pre) (b := Y) (c := post) (q := q) (v := bits .xor .u8 z (2 ^ e % 256)) (by rw [HYL.out]; omega)
        rw [HPL.out] at hsm
        rw [hsm] at hs
        have hl := burst_bit HYB.out (F := F) (k := k) (by rw [HYL.out]; omega) h32 n0
        rw [hq, he, hz, HYL.out] at hl
        have HL9 := Lib.hid hl
        have HS := Lib.hid (show Row 5 .u8 (.slice (some ⟨g, 0, none⟩) L c') (pre ++ Y.set q (bits .xor .u8 z (2 ^ e % 256)) ++ post) (wr.setCell ⟨g, (nb.length + 10) + q, none⟩ (.int .u8 (bits .xor .u8 z (2 ^ e % 256)))).drew S ∧ Step (fun _ => False) S w4 (wr.setCell ⟨g, (nb.length + 10) + q, none⟩ (.int .u8 (bits .xor .u8 z (2 ^ e % 256)))).drew from
          ⟨(Lcl.row _ _ _ _).drew hs.1, (ST.out.trans hs.2).drew⟩)
        have HPOW := Lib.hid hpow
        clear hs hl hpow hsm
        go_wp2_with fail
        go_roundw
        case rel =>
          refine ⟨k + 1, Y.set q (bits .xor .u8 z (2 ^ e % 256)), S, by omega, rfl, by rw [List.length_set]; exact HYL.out, set_bytes HYB.out q (xor_byte _ _), fun h => absurd h HNZ.out, ?_, HS.out.1, HS.out.2⟩
          rw [HPOW.out, HL9.out, HYC.out, HN.out, sts_xor, BitVec.xor_assoc]
        case measure => simp [intOf]; omega
    · obtain rfl : k = 32 := by omega
      rw [Nat.mod_eq_of_lt (show M < 2 ^ 32 from hM.out)] at hYc hY0
      obtain ⟨X, hX⟩ : ∃ X, pre ++ Y ++ post = X := ⟨_, rfl⟩
      have hXb : IsBytes X := by
        rw [← hX]
        intro x hx
        rcases List.mem_append.1 hx with hx | hx
        · rcases List.mem_append.1 hx with hx | hx
          · exact HPRE.out x hx
          · exact hYb x hx
        · exact HPOST.out x hx
      have hXl : X.length = L := by
        rw [← hX, List.length_append, List.length_append, hYl]
        have := HL3.out
        rw [HYL0.out] at this
        exact this
      have HT0 := Lib.hid (show M = 0 → takeF X = .ok (nb, K6, pay) from fun h => by
        rw [← hX, hY0 h, ← HPT.out.whole]
        exact take_put HNS.out HB.out HCK.out)
      have HT1 := Lib.hid (show M ≠ 0 → takeF X = .error 10 from fun h => by
        rw [← hX]
        exact HPT.out.bad Y M (8 * m - F) (by rw [hYl, HYL0.out]) hYb hM.out h hYc)
      rw [hX] at hrow
      have hr := take_c (some ⟨g, 0, none⟩) c' X wr (readsAny hrow) hXb (by omega) (by omega) (by omega)
      rw [hXl] at hr
      have HTK := Lib.hid hr
      have XR := Lib.hid (Wire.belowF st)
      clear hrow st hYl hYb hYc hr hX hXb hXl hY0 HROW ST HYL HYB HYC HY0 HPT HYL0 HYB0 HPRE HPOST HL3 HPL hM
      go_wp2_with fail
      refine HTK.out.mono ?_
      rintro e w5 ht
      obtain ⟨v1, x1, rfl, hx5, ⟨s1, k1, A5, n5, c5, rfl⟩, he1, ho1⟩ := told_err ht
      have hxa : Ext w5 (w5.alloc (.cells #[.string s1, .int .u8 k1, .slice A5 n5 c5] 30)) := (Below.refl _ _).alloc (Nat.le_refl _) _
      have X5 := Lib.hid (Ext.trans _ _ _ XR.out (Ext.trans _ _ _ hx5 hxa))
      have HE1 := Lib.hid (show (M = 0 → x1 = 0) ∧ (M ≠ 0 → x1 = 10) from ⟨fun h => ho1 _ (HT0.out h), fun h => he1 _ (HT1.out h)⟩)
      have HR5 := Lib.hid (Ext.reads X5.out HR4.out)
      clear ht hx5 hxa he1 ho1 HT0 HT1 HTK XR
      obtain ⟨i, hi, hiL⟩ : ∃ i, t % L = i ∧ i < L := ⟨_, rfl, Nat.mod_lt _ (by omega)⟩
      have hti : (t : Int) % (L : Int) = (i : Int) := by rw [← hi]; rfl
      have hic : i ≤ c4 := by omega
      have hpl : ((frameB nb K6 pay).take i).length = i := by rw [List.length_take, HL.out]; omega
      have hr := take_c A4 c4 ((frameB nb K6 pay).take i) _ (HR5.out.take i) (fun x hx => HBF.out x (List.mem_of_mem_take hx)) (by omega) (by omega) hc4m
      rw [hpl] at hr
      have HTK := Lib.hid hr
      have HSH := Lib.hid (take_short HNS.out HB.out HCK.out (i := i) (by rw [HL.out]; exact hiL))
      clear hr hpl hi
      go_wp2_with fail
      refine HTK.out.mono ?_
      rintro e w6 ht
      obtain ⟨v2, x2, rfl, hx6, ⟨s2, k2, A6, n6, c6, rfl⟩, he2, _⟩ := told_err ht
      obtain ⟨y2, hy2, hy20⟩ := HSH.out
      have hx20 : x2 ≠ 0 := by rw [he2 _ hy2]; exact hy20
      have hx2b : (x2 != 0) = true := by simpa using hx20
      have hxb : Ext w6 (w6.alloc (.cells #[.string s2, .int .u8 k2, .slice A6 n6 c6] 30)) := (Below.refl _ _).alloc (Nat.le_refl _) _
      have X6 := Lib.hid (Ext.trans _ _ _ X5.out (Ext.trans _ _ _ hx6 hxb))
      clear ht hx6 hxb he2 hy2 hy20 hx20 HTK HSH HR5 X5 hti
      have h7 := sepEmpty Lcl.emp (w := w6.alloc (.cells #[.string s2, .int .u8 k2, .slice A6 n6 c6] 30)) (S := fun _ => False) (fun _ x => x) 5 .u8
      have h7a := h7.1
      have h7b := h7.2
      rw [size_al w6] at h7a h7b
      have HE := Lib.hid h7a
      have ST7 := Lib.hid h7b
      have HR7 := Lib.hid (Ext.reads (Ext.trans _ _ _ X6.out (Wire.belowF ST7.out)) HR4.out)
      clear h7 h7a h7b
      go_wp2_with (first
        | (at_builtin; refine append_row _ rfl _ _ 22 rfl 5 .u8 1 Try.underlying22 Crc.info_u8 (by decide) _ [] (frameB nb K6 pay) A4 L c4 rfl rfl HL.out.symm Lcl.emp HE.out HR7.out (by rw [HL.out]; simp; omega) ?_; intro A8 c8 w8 S8 h8 st8; simp only [List.length_nil, Nat.zero_add, List.nil_append] at h8 ⊢; have H8 := Lib.hid h8.left_of_emp; have ST8 := Lib.hid (ST7.out.trans st8); have HQ8 := Lib.hid (Ext.reads (Ext.trans _ _ _ X4.out (Ext.trans _ _ _ X6.out (Wire.belowF ST8.out))) HQ.out); clear h8 st8)
        | (at_builtin; refine append_row _ rfl _ _ 22 rfl 5 .u8 1 Try.underlying22 Crc.info_u8 (by decide) _ (frameB nb K6 pay) more A3 more.length c3 rfl rfl rfl Lcl.emp H8.out.sepEmp HQ8.out (by rw [HL.out]; omega) ?_; intro A9 c9 w9 S9 h9 st9; rw [HL.out] at h9 ⊢; have h9b := h9.left_of_emp; obtain ⟨_, _, e9, hc9a, hc9b⟩ := h9b.shape; injection e9 with qa _ q9; subst qa q9; rw [List.length_append, HL.out] at hc9a; simp only [maxLen] at hc9b; have H9 := Lib.hid h9b; have ST9 := Lib.hid (ST8.out.trans st9); clear h9 st9 h9b))
      have hr := fun A hrd => take_c A c9 (frameB nb K6 pay ++ more) w9 hrd (fun x hx => (List.mem_append.1 hx).elim (HBF.out x) (HQB.out x)) (by rw [List.length_append, HL.out]; omega) (by rw [List.length_append, HL.out]; omega) (by omega)
      rw [List.length_append] at hr
      have HTK := Lib.hid hr
      have XZ := Lib.hid (Ext.trans _ _ _ X4.out (Ext.trans _ _ _ X6.out (Wire.belowF ST9.out)))
      clear hr ST7 HR7 H8 ST8 HQ8 HE X6 ST9
      refine (HTK.out _ (readsAny H9.out)).mono ?_
      rintro e w10 ht
      obtain ⟨v3, x3, rfl, hx10, ⟨s3, k3, A10, n10, c10, rfl⟩, he3, ho3⟩ := told_err ht
      have hxc : Ext w10 (w10.alloc (.cells #[.string s3, .int .u8 k3, .slice A10 n10 c10] 30)) := (Below.refl _ _).alloc (Nat.le_refl _) _
      have X10 := Lib.hid (Ext.trans _ _ _ XZ.out (Ext.trans _ _ _ hx10 hxc))
      have hx3 : (x3 == 0) = decide (more.length = 0) := by
        by_cases h0 : more = []
        · have := ho3 _ (show takeF (frameB nb K6 pay ++ more) = .ok (nb, K6, pay) by rw [h0, List.append_nil]; exact take_put HNS.out HB.out HCK.out)
          rw [this, h0]; rfl
        · obtain ⟨y3, hy3, hy30⟩ := take_long HNS.out HB.out HQB.out HCK.out h0
          have := he3 _ hy3
          rw [this]
          have hl0 : ¬ more.length = 0 := fun h => h0 (List.eq_nil_of_length_eq_zero h)
          rw [decide_eq_false hl0]
          simpa using hy30
      have hm0 : ((more.length : Int) == 0) = decide (more.length = 0) := by
        by_cases h0 : more.length = 0
        · rw [decide_eq_true h0, h0]; rfl
        · rw [decide_eq_false h0]; simpa using h0
      obtain ⟨bm, hbm⟩ : ∃ bm, decide (more.length = 0) = bm := ⟨_, rfl⟩
      rw [hbm] at hx3 hm0
      have hbb : (bm == bm) = true := by cases bm <;> rfl
      clear ht hx10 hxc he3 ho3 HTK XZ H9 hbm
      by_cases hM0 : M = 0
      · obtain rfl := HE1.out.1 hM0
        subst hM0
        go_wp2_with fail
        go_ret
        exact ⟨rfl, X10.out⟩
      · obtain rfl := HE1.out.2 hM0
        have hm1 : ((M : Int) == 0) = false := by simpa using hM0
        go_wp2_with fail
        go_ret
        exact ⟨rfl, X10.out⟩
theorem spoilt_wf (A1 : Option Addr) (c1 : Nat) (nm : List Int) (k : Int) (A2 : Option Addr) (c2 : Nat) (pay : List Int) (pos mask : Int) (b : Bool) (A3 : Option Addr) (c3 : Nat) (more : List Int) (w : World) (h1 : ArgI w .u8 A1 c1 nm) (h2 : (Lit.int .u8 k).wf = true) (h3 : ArgI w .u8 A2 c2 pay) (hpos : (Lit.int .u16 pos).wf = true) (hmask : (Lit.int .u32 mask).wf = true) (h4 : ArgI w .u8 A3 c3 more) :
    Calls Try.prog 3 #[.agg #[.slice A1 nm.length c1, .int .u8 k, .slice A2 pay.length c2], .int .u16 pos, .int .u32 mask, .bool b, .slice A3 more.length c3] w fun e w' => e = .returned (.bool true) ∧ Below w.heap.size w w' := by
  cases b
  · exact spoilt_false A1 c1 nm k A2 c2 pay pos mask A3 c3 more w h1 h2 h3 hpos hmask h4
  · exact spoilt_true A1 c1 nm k A2 c2 pay pos mask A3 c3 more w h1 h2 h3 hpos hmask h4
end Go.Proofs.Ytfpeeilenocaoaa.Frame
