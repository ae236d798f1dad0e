/- The law BitsBack, at every input. -/
import Derived.Test.YtpgnlpcnancplaaBitsItem
import Derived.Test.YtpgnlpcnancplaaRelyD
namespace Go.Proofs.Ytpgnlpcnancplaa.Bits
open Go.RowKit Go.Proofs.Ytpgnlpcnancplaa.Own Go.Proofs.Ytpgnlpcnancplaa.Rely
attribute [local go_sem] max_ints min_ints

/-- Blocks of Z may be written, and what G tells of them stays. -/
def RK (Z : Nat → Prop) (G : World → Prop) (w w' : World) : Prop := Keep Z w w' ∧ (G w → G w')
theorem RK.refl (Z : Nat → Prop) (G : World → Prop) (w : World) : RK Z G w w := ⟨Keep.refl _ _, fun h => h⟩
theorem RK.trans (Z : Nat → Prop) (G : World → Prop) (a b c : World) (h : RK Z G a b) (k : RK Z G b c) : RK Z G a c := ⟨h.1.trans k.1 (fun _ _ q => q) (fun _ _ q => q), fun g => k.2 (h.2 g)⟩
theorem RK.ext {Z : Nat → Prop} {G : World → Prop} (hG : ∀ a b, G a → Ext a b → G b) (w w' : World) (h : Ext w w') : RK Z G w w' := ⟨Keep.of_below h, fun g => hG _ _ g h⟩
theorem RK.undrew {Z : Nat → Prop} {G : World → Prop} (hG : ∀ a, G a → G a.drew) {a b : World} (h : RK Z G a.drew b) : RK Z G a b :=
  ⟨⟨h.1.os, h.1.tape, h.1.output, h.1.size, h.1.block⟩, fun g => h.2 (hG _ g)⟩

theorem mask_n (n k : Nat) (hk : k < 64) : Go.bits .and .u64 (n : Int) ((2 : Int) ^ k - 1) = ((n % 2 ^ k : Nat) : Int) := by
  have hp : 0 < 2 ^ k := Nat.pow_pos (by omega)
  have hlt : 2 ^ k ≤ 2 ^ 63 := Nat.pow_le_pow_right (by omega) (by omega)
  have e : (2 : Int) ^ k - 1 = ((2 ^ k - 1 : Nat) : Int) := by rw [Int.ofNat_sub hp, Int.natCast_pow]; rfl
  rw [Bit.and64, e, BitVec.ofInt_natCast, BitVec.ofInt_natCast, BitVec.toNat_and, BitVec.toNat_ofNat, BitVec.toNat_ofNat, Nat.mod_eq_of_lt (show 2 ^ k - 1 < 2 ^ 64 by omega), Nat.and_two_pow_sub_one_eq_mod, Nat.mod_mod_of_dvd _ (Nat.pow_dvd_pow 2 (by omega))]

theorem alloc_keep {A : Asn} (hA : Lcl A) {w : World} {S : Nat → Prop} (h : A w S) (o : Obj) : A (w.alloc o) S := hA.keep h fun k hk => Below.heap_alloc _ _ _ (hA.lt h hk)

theorem loc_bw_rd (r : Nat) (A : Option Addr) (c : Nat) (B : List Int) (at_ : Nat) (sh : Bool) : Lcl (RD r A c B at_ sh (RdF A B)) := (Lcl.blk _ _ _).sep (loc_rdf _ _)

set_option maxHeartbeats 8000000 in
theorem back_wf (A : Option Addr) (c : Nat) (xs : List It) (w : World) (h : ArgS w A c xs) :
    Calls Try.prog 7 #[.slice A xs.length c] w fun e w' => e = .returned (.bool true) ∧ Below w.heap.size w w' := by
  have HA := Lib.hid h
  have hem : Emp w (fun _ => False) := fun _ x => x
  have HE := Lib.hid hem
  clear h hem
  go_enter Try.func7, Try.ntmps7
  go_wp2_with fail
  refine (awake_tri _ _ HE.out).mono ?_
  rintro e w1 ⟨S1, ⟨rfl, h1⟩, st1⟩
  have ST1 := Lib.hid (show Step (fun _ => False) (fun _ => False) w w1 from ⟨st1.keep, fun _ x => x.elim⟩)
  clear h1 st1
  by_cases h40 : 40 < xs.length
  · go_wp2_with fail
    go_ret
    exact ⟨rfl, below_of ST1.out⟩
  have hn : xs.length ≤ 40 := by omega
  have n1 := new_bw Lcl.emp (w := w1) (S := fun _ => False) (fun _ x => x)
  have H2 := Lib.hid (Sep.left_of_emp n1.1)
  have ST2 := Lib.hid (ST1.out.trans n1.2)
  clear n1
  go_wp2_with fail
  generalize w1.alloc (.cells #[.slice none 0 0, .int .i64 0] 36) = w2 at H2 ST2 ⊢
  generalize w1.heap.size = p at H2 ST2 ⊢
  go_loopw [4, 21] (fun v4 v21 wr => ∃ (k : Nat) (S' : Nat → Prop), k ≤ xs.length ∧ v21 = .int .i64 k ∧ Sep (BW p (itsB (xs.take k))) (Row 5 .u8 v4 (bs (itsB (xs.take k)))) wr S' ∧ Step (fun _ => False) S' w wr) (fun _ v21 _ => xs.length - (intOf v21).toNat)
  case atStart => exact ⟨0, _, by omega, rfl, ⟨_, fun _ => False, H2.out, Row.nil _ _ _, fun _ _ x => x, fun k => by simp⟩, ST2.out⟩
  case round =>
    clear H2 ST2
    obtain ⟨k, S', hk, rfl, hw, hst⟩ := hrel
    have HW := Lib.hid hw
    have ST := Lib.hid hst
    clear hw hst
    by_cases hlt : k < xs.length
    · obtain ⟨b, o, rfl, hblt, x0, x1, x2, x3⟩ := HA.out.reads k hlt
      have hok := HA.out.okay _ (show xs.getD k z0 ∈ xs by rw [List.getD_eq_getElem?_getD, List.getElem?_eq_getElem hlt]; exact List.getElem_mem hlt)
      have hE := below_of ST.out
      replace x0 := (hE.cell (p := ⟨b, o + k * 4, none⟩) hblt).trans x0
      replace x1 := (hE.cell (p := ⟨b, o + k * 4 + 1, none⟩) hblt).trans x1
      replace x2 := (hE.cell (p := ⟨b, o + k * 4 + 2, none⟩) hblt).trans x2
      replace x3 := (hE.cell (p := ⟨b, o + k * 4 + 3, none⟩) hblt).trans x3
      have HT := Lib.hid (itsB_at xs k hlt).2
      have h4 := itsB_len (xs.take k)
      have h5 : (itsB (xs.take k)).length ≤ 2560 := by simp at h4; omega
      clear h4 hE
      generalize xs.getD k z0 = it at x0 x1 x2 x3 hok HT
      generalize itsB (xs.take k) = P at HW HT h5 ⊢
      obtain ⟨nn, size, ones, un⟩ := it
      have HO := Lib.hid hok
      clear hok
      simp only at x0 x1 x2 x3
      have hal := Sep.alloc ((loc_bw p P).sep (Lcl.row _ _ _ _)) HW.out #[.int .u64 nn, .int .i64 size, .int .u8 ones, .bool un] 56
      have HAL := Lib.hid hal
      clear hal
      have hk4 : (k : Int) < (xs.length : Int) := by omega
      cases un with
      | true =>
        obtain ⟨m, hm⟩ : ∃ m : Nat, ones % 40 = m := ⟨(ones % 40).toNat, by have := HO.out.o0; simp only at this; omega⟩
        have hm40 : m < 40 := by omega
        have hIT : itB ⟨nn, size, ones, true⟩ = List.replicate m true ++ [false] := by unfold itB; rw [if_pos rfl]; simp only [hm, Int.toNat_natCast]
        rw [hIT] at HT
        clear hIT
        have ho0 : 0 ≤ ones := HO.out.o0
        go_wp2_with fail
        generalize wr.alloc (.cells #[.int .u64 nn, .int .i64 size, .int .u8 ones, .bool true] 56) = wa at HAL ⊢
        generalize wr.heap.size = g at HAL ⊢
        have ST1 := Lib.hid (ST.out.trans HAL.out.2)
        have hp := (unary_tri p P m (by omega) (by omega) (by omega)).frame ((Lcl.blk g #[.int .u64 nn, .int .i64 size, .int .u8 ones, .bool true] 56).sep (Lcl.row 5 .u8 u4 (bs P)))
        refine (hp _ _ HAL.out.1.second).mono ?_
        rintro e w3 ⟨S3, hf, st3⟩
        obtain ⟨rfl, h3⟩ := Sep.fact hf
        rw [Int.toNat_natCast, List.append_assoc] at h3
        have ST3 := Lib.hid (ST1.out.trans st3)
        obtain ⟨T3, hT3, _⟩ := h3.second.left
        have y0 : w3.cell? ⟨g, 0, none⟩ = some (.int .u64 nn) := hT3.cell 0
        have y1 : w3.cell? ⟨g, 1, none⟩ = some (.int .i64 size) := hT3.cell 1
        have y2 : w3.cell? ⟨g, 2, none⟩ = some (.int .u8 ones) := hT3.cell 2
        have H3 := Lib.hid h3.assoc'.comm
        clear hf h3 st3 hp hT3 HAL ST1 x0 x1 x2 x3
        go_wp2_with fail
        refine (refUnary_c m (by omega) w3).mono ?_
        rintro e w4 ⟨A4, c4, rfl, hc4, S4, hr4, st4⟩
        have hE4 := below_of st4
        obtain ⟨A5, c5, e5, _, hrd, _⟩ := hr4.reads
        injection e5 with e6 _ e7
        subst e6 e7
        have HRD := Lib.hid hrd
        have H4 := Lib.hid (((Lcl.row _ _ _ _).sep ((loc_bw _ _).sep (Lcl.blk _ _ _))).keep H3.out fun k hk => hE4.block k (((Lcl.row _ _ _ _).sep ((loc_bw _ _).sep (Lcl.blk _ _ _))).lt H3.out hk))
        have ST4 := Lib.hid (ST3.out.trans ⟨Keep.of_below hE4, fun x hx => .inl hx⟩)
        clear hr4 st4 hE4 hrd H3 ST3 y0 y1 y2
        have hl4 := bs_length P
        have hm4 : (bs (List.replicate m true ++ [false])).length ≤ 64 := by rw [bs_length]; simp <;> omega
        go_wp2_with (at_builtin; refine append_row _ rfl _ _ 26 rfl 5 .u8 1 Try.underlying26 info_u8 (by decide) _ (bs P) (bs (List.replicate m true ++ [false])) A4 (bs (List.replicate m true ++ [false])).length _ rfl rfl rfl ((loc_bw _ _).sep (Lcl.blk _ _ _)) H4.out HRD.out (by omega) ?_; intro A' c' w' S5 h' st'; have H' := Lib.hid h'; have ST' := Lib.hid st'; clear h' st')
        go_roundw
        case rel =>
          have h7 := H'.out.assoc'.comm
          obtain ⟨S6, h8, hs8⟩ := h7.drop
          refine ⟨k + 1, S6, by omega, rfl, ?_, (ST4.out.trans ST'.out).less hs8⟩
          have h9 := h8.comm
          rw [← bs_app, hl4] at h9
          rw [HT.out]
          exact h9
        case measure => first | (simp [intOf]; done) | (simp [intOf]; omega)
      | false =>
        obtain ⟨n, rfl⟩ : ∃ n : Nat, nn = n := ⟨nn.toNat, by have := HO.out.n0; simp only at this; omega⟩
        have hnb : n < 18446744073709551616 := by have := HO.out.n1; simp only at this; omega
        have hIT : itB ⟨(n : Int), size, ones, false⟩ = bitsOf n (kOf size) := by unfold itB; rw [if_neg (by simp)]; simp only [Int.toNat_natCast]
        rw [hIT] at HT
        clear hIT
        go_wp2_with fail
        generalize wr.alloc (.cells #[.int .u64 n, .int .i64 size, .int .u8 ones, .bool false] 56) = wa at HAL ⊢
        generalize wr.heap.size = g at HAL ⊢
        have ST1 := Lib.hid (ST.out.trans HAL.out.2)
        have hp := (put_gen p P n (kOf size) size (by unfold kOf; omega) hnb (kOf_le size) (by omega)).frame ((Lcl.blk g #[.int .u64 n, .int .i64 size, .int .u8 ones, .bool false] 56).sep (Lcl.row 5 .u8 u4 (bs P)))
        refine (hp _ _ HAL.out.1.second).mono ?_
        rintro e w3 ⟨S3, hf, st3⟩
        obtain ⟨rfl, h3⟩ := Sep.fact hf
        have ST3 := Lib.hid (ST1.out.trans st3)
        obtain ⟨T3, hT3, _⟩ := h3.second.left
        have y0 : w3.cell? ⟨g, 0, none⟩ = some (.int .u64 n) := hT3.cell 0
        have y1 : w3.cell? ⟨g, 1, none⟩ = some (.int .i64 size) := hT3.cell 1
        have y2 : w3.cell? ⟨g, 2, none⟩ = some (.int .u8 ones) := hT3.cell 2
        have H3 := Lib.hid h3.assoc'.comm
        clear hf h3 st3 hp hT3 HAL ST1 x0 x1 x2 x3
        go_wp2_with fail
        refine (refBits_c n size hnb w3).mono ?_
        rintro e w4 ⟨A4, c4, rfl, hc4, S4, hr4, st4⟩
        have hE4 := below_of st4
        obtain ⟨A5, c5, e5, _, hrd, _⟩ := hr4.reads
        injection e5 with e6 _ e7
        subst e6 e7
        have HRD := Lib.hid hrd
        have H4 := Lib.hid (((Lcl.row _ _ _ _).sep ((loc_bw _ _).sep (Lcl.blk _ _ _))).keep H3.out fun k hk => hE4.block k (((Lcl.row _ _ _ _).sep ((loc_bw _ _).sep (Lcl.blk _ _ _))).lt H3.out hk))
        have ST4 := Lib.hid (ST3.out.trans ⟨Keep.of_below hE4, fun x hx => .inl hx⟩)
        clear hr4 st4 hE4 hrd H3 ST3 y0 y1 y2
        have hl4 := bs_length P
        have hm4 : (bs (bitsOf n (kOf size))).length ≤ 64 := by rw [bs_length]; rw [bitsOf_length]; exact kOf_le size
        go_wp2_with (at_builtin; refine append_row _ rfl _ _ 26 rfl 5 .u8 1 Try.underlying26 info_u8 (by decide) _ (bs P) (bs (bitsOf n (kOf size))) A4 (bs (bitsOf n (kOf size))).length _ rfl rfl rfl ((loc_bw _ _).sep (Lcl.blk _ _ _)) H4.out HRD.out (by omega) ?_; intro A' c' w' S5 h' st'; have H' := Lib.hid h'; have ST' := Lib.hid st'; clear h' st')
        go_roundw
        case rel =>
          have h7 := H'.out.assoc'.comm
          obtain ⟨S6, h8, hs8⟩ := h7.drop
          refine ⟨k + 1, S6, by omega, rfl, ?_, (ST4.out.trans ST'.out).less hs8⟩
          have h9 := h8.comm
          rw [← bs_app, hl4] at h9
          rw [HT.out]
          exact h9
        case measure => first | (simp [intOf]; done) | (simp [intOf]; omega)
    · obtain rfl : k = xs.length := by omega
      rw [List.take_length] at HW
      have hL5 : (itsB xs).length ≤ 2560 := by have := itsB_len xs; omega
      have hLL : RowKit.Hid ((itsB xs).length ≤ 1000000000) := Lib.hid (by omega)
      have hLM : RowKit.Hid ((itsB xs).length ≤ 1000000) := Lib.hid (by omega)
      obtain ⟨T7, hT7, hTs⟩ := HW.out.left
      obtain ⟨T8, hT8, _⟩ := HW.out.comm.left
      obtain ⟨A4, c4, rfl, hc4, hr4, _⟩ := hT8.reads
      rw [bs_length] at hc4 ⊢
      have TW := Lib.hid hT7
      have HR4 := Lib.hid hr4
      clear hT7 hT8 hr4 HW
      go_wp2_with fail
      refine wp_region_rely (by kernel_rfl) Ext Ext.refl Ext.trans [[(3, none)], [(54, some 0)], [(4, none)], [(56, some 2)], [(55, some 1), (57, some 3)], [(58, some 4)], [(3, none)], [(60, some 6)], [(61, some 7)], [(4, none)], [(63, some 9)], [(64, some 10)], [(62, some 8), (65, some 11)], [(59, some 5), (66, some 12)]] [some 54, some 55, some 56, some 57, some 58, some 59, some 60, some 61, some 62, some 63, some 64, some 65, some 66, some 67] (by kernel_rfl) (by kernel_rfl) ?_
      -- 0: slot 54 := Op.move t3
      apply rely_const; case h => (intro wr hR a' h3 K hK; go_wp2_with fail; exact Ext.refl _)
      -- 1: slot 55 := Op.call { value (Operand.func 22), args := #[t54], argTypes := #[34] }
      apply rely_const
      case h =>
        intro wr hR a' h54 K hK
        go_wp2_with fail
        refine (len_is p (itsB xs) wr _ (Ext.keep (loc_bw _ _) hR.undrew TW.out)).mono ?_
        rintro e w2 ⟨rfl, rfl⟩
        go_wp2_with fail
        exact Ext.refl _
      -- 2: slot 56 := Op.move t4
      apply rely_const; case h => (intro wr hR a' h4 K hK; go_wp2_with fail; exact Ext.refl _)
      -- 3: slot 57 := Op.call { builtin len, args := #[t56], argTypes := #[26] }
      apply rely_const; case h => (intro wr hR a' h56 K hK; go_wp2_with fail; exact Ext.refl _)
      -- 4: slot 58 := Op.binOp BinOp.neq 3 t55 t57 3
      apply rely_const; case h => (intro wr hR a' h55 h57 K hK; go_wp2_with fail; exact Ext.refl _)
      -- 5: slot 59 := Op.move t58
      apply rely_const; case h => (intro wr hR a' h58 K hK; go_wp2_with fail; exact Ext.refl _)
      -- 6: slot 60 := Op.move t3 GUARD 5 false
      apply rely_const_in _ rfl; case h => (intro wr hR a' h3 K hK; go_wp2_with fail; exact Ext.refl _)
      -- 7: slot 61 := Op.call { value (Operand.func 23), args := #[t60], argTypes := #[34] } GUARD 5 false
      refine rely_rel_in (fun v wr => ∃ A c, v = .slice A (pack (itsB xs)).length c ∧ Reads wr .u8 A (pack (itsB xs))) (fun v w w' ⟨A, c, e, k⟩ x => ⟨A, c, e, x.reads k⟩) rfl ?_ ?_
      · intro wr hR a' h60 K hK
        have HK := Lib.hid hK
        clear hK
        go_wp2_with fail
        refine (bytes_c p (itsB xs) hLL.out wr _ (Ext.keep (loc_bw _ _) hR.undrew TW.out)).mono ?_
        rintro e w2 ⟨A, c, rfl, _, hr, hb⟩
        go_wp2_with fail
        exact HK.out _ _ hb ⟨A, c, rfl, hr⟩
      -- 8: slot 62 := Op.convert 26 9 t61 GUARD 5 false
      apply rely_const_in _ rfl
      case h =>
        rintro wr hR a' v h61 ⟨A, c, rfl, hr⟩ K hK
        have hcv := hr.string (P := Try.prog) Try.underlying26 Try.underlying5 Try.underlying9 c
        go_wp2_with fail
        exact Ext.refl _
      -- 9: slot 63 := Op.move t4 GUARD 5 false
      apply rely_const_in _ rfl; case h => (intro wr hR a' h4 K hK; go_wp2_with fail; exact Ext.refl _)
      -- 10: slot 64 := Op.call { value (Operand.func 38), args := #[t63], argTypes := #[26] } GUARD 5 false
      refine rely_rel_in (fun v wr => ∃ A c, v = .slice A (pack (itsB xs)).length c ∧ Reads wr .u8 A (pack (itsB xs))) (fun v w w' ⟨A, c, e, k⟩ x => ⟨A, c, e, x.reads k⟩) rfl ?_ ?_
      · intro wr hR a' h63 K hK
        have HK := Lib.hid hK
        clear hK
        go_wp2_with fail
        refine (refBytes_c (itsB xs) hLM.out A4 c4 wr (hR.undrew.reads HR4.out)).mono ?_
        rintro e w2 ⟨A, c, rfl, _, S9, hr9, st9⟩
        go_wp2_with fail
        obtain ⟨A9, c9, e9, _, hrd9, _⟩ := hr9.reads
        injection e9 with e91 _ e92
        subst e91 e92
        exact HK.out _ _ (below_of st9) ⟨_, _, rfl, hrd9⟩
      -- 11: slot 65 := Op.convert 26 9 t64 GUARD 5 false
      apply rely_const_in _ rfl
      case h =>
        rintro wr hR a' v h64 ⟨A, c, rfl, hr⟩ K hK
        have hcv := hr.string (P := Try.prog) Try.underlying26 Try.underlying5 Try.underlying9 c
        go_wp2_with fail
        exact Ext.refl _
      -- 12: slot 66 := Op.binOp BinOp.neq 9 t62 t65 9 GUARD 5 false
      apply rely_const_in _ rfl; case h => (intro wr hR a' h62 h65 K hK; go_wp2_with fail; exact Ext.refl _)
      -- 13: slot 67 := Op.pick t59 (const (Value.bool true)) t66
      apply rely_const; case h => (intro wr hR a' h59 h66 K hK; go_wp2_with fail; exact Ext.refl _)
      refine rely_end ?_
      intro wr hR
      simp only [ends, Act.put, List.setIfInBounds_toArray, List.set_cons_zero, List.set_cons_succ]
      intro v61 hv61 v64 hv64
      have STR := Lib.hid ((ST.out.trans ⟨Keep.of_below hR.undrew, fun x hx => .inl hx⟩).less hTs)
      have TW2 := Lib.hid (Ext.keep (loc_bw _ _) hR.undrew TW.out)
      clear hR hv61 hv64 TW ST HR4
      have HU := Lib.hid (fun k hk => itsB_get xs k hk)
      obtain ⟨hpb, hpa⟩ := pack_all (itsB xs)
      have HPB := Lib.hid (show ∀ x ∈ pack (itsB xs), 0 ≤ x ∧ x ≤ 255 from hpb)
      have HPA := Lib.hid hpa
      have hpl := pack_length (itsB xs)
      have HLE : RowKit.Hid (itsB (xs.take xs.length) = itsB xs) := Lib.hid (by rw [List.take_length])
      clear hpb hpa
      have hgt : (itsB xs).length ≤ 8 * (pack (itsB xs)).length := by omega
      have hg8 : 8 * (pack (itsB xs)).length < (itsB xs).length + 8 := by omega
      have hBl : (pack (itsB xs)).length ≤ 1000000000 := by omega
      clear hpl
      go_wp2_with fail
      refine (bytes_f p (itsB xs) hLL.out _ _ TW2.out).mono ?_
      rintro e w3 ⟨A3, c3, rfl, hc3, hb3, S3, h3, st3⟩
      obtain ⟨T3, hT3, hs3⟩ := h3.comm.left
      have n4 := Sep.alloc (loc_rdf _ _) hT3 #[.slice A3 (pack (itsB xs)).length c3, .int .i64 0, .bool false] 78
      have H4 := Lib.hid n4.1
      have ST4 := Lib.hid (((STR.out.trans st3).less hs3).trans n4.2)
      clear n4 h3 st3 hb3 TW2 STR hT3 hs3
      generalize hL : itsB xs = L at *
      clear hL
      go_wp2_with fail
      refine (read_is A3 (pack L).length c3 w3).mono ?_
      rintro e w4 ⟨rfl, rfl⟩
      generalize w3.alloc (.cells #[.slice A3 (pack L).length c3, .int .i64 0, .bool false] 78) = w4 at H4 ST4 ⊢
      generalize w3.heap.size = r at H4 ST4 ⊢
      generalize hB : pack L = B at *
      clear hB
      go_wp2_with fail
      go_loopw [73] (fun v73 wr => ∃ (k : Nat) (S' : Nat → Prop), k ≤ xs.length ∧ v73 = .int .i64 k ∧ RD r A3 c3 B (itsB (xs.take k)).length false (RdF A3 B) wr S' ∧ Step (fun _ => False) S' w wr) (fun v73 _ => xs.length - (intOf v73).toNat)
      case atStart => exact ⟨0, _, by omega, rfl, H4.out, ST4.out⟩
      case round =>
        clear H4 ST4
        obtain ⟨k, S', hk, rfl, hw, hst⟩ := hrel
        have HW := Lib.hid hw
        have ST := Lib.hid hst
        clear hw hst
        have hrd : ∀ w S, RdF A3 B w S → Reads w .u8 A3 B := fun _ _ x => x.1
        have HRD := Lib.hid hrd
        clear hrd
        by_cases hlt : k < xs.length
        · obtain ⟨b, o, rfl, hblt, x0, x1, x2, x3⟩ := HA.out.reads k hlt
          have hok := HA.out.okay _ (show xs.getD k z0 ∈ xs by rw [List.getD_eq_getElem?_getD, List.getElem?_eq_getElem hlt]; exact List.getElem_mem hlt)
          have hE := below_of ST.out
          replace x0 := (hE.cell (p := ⟨b, o + k * 4, none⟩) hblt).trans x0
          replace x1 := (hE.cell (p := ⟨b, o + k * 4 + 1, none⟩) hblt).trans x1
          replace x2 := (hE.cell (p := ⟨b, o + k * 4 + 2, none⟩) hblt).trans x2
          replace x3 := (hE.cell (p := ⟨b, o + k * 4 + 3, none⟩) hblt).trans x3
          obtain ⟨g1, g2, g3⟩ := HU.out k hlt
          have HL := Lib.hid g2
          clear hE g2
          generalize xs.getD k z0 = it at x0 x1 x2 x3 hok HL g1 g3
          generalize (itsB (xs.take k)).length = at_ at HW HL g1 g3 ⊢
          have G1 := Lib.hid (show ∀ i, i < (itB it).length → bitAt B (at_ + i) = (itB it).getD i false from fun i hi => by rw [HPA.out]; exact g1 i hi)
          clear g1
          obtain ⟨nn, size, ones, un⟩ := it
          have HO := Lib.hid hok
          clear hok
          simp only at x0 x1 x2 x3
          have hal := Sep.alloc (loc_bw_rd r A3 c3 B at_ false) HW.out #[.int .u64 nn, .int .i64 size, .int .u8 ones, .bool un] 56
          have HAL := Lib.hid hal
          clear hal
          have hk4 : (k : Int) < (xs.length : Int) := by omega
          have ho0 : 0 ≤ ones := HO.out.o0
          cases un with
          | true =>
            obtain ⟨m, hm⟩ : ∃ m : Nat, ones % 40 = m := ⟨(ones % 40).toNat, by omega⟩
            have hm40 : m < 40 := by omega
            have hIT : itB ⟨nn, size, ones, true⟩ = List.replicate m true ++ [false] := by unfold itB; rw [if_pos rfl]; simp only [hm, Int.toNat_natCast]
            rw [hIT] at HL G1 g3
            have hlen : (List.replicate m true ++ [false]).length = m + 1 := by simp
            rw [hlen] at HL G1 g3
            have hones : Ones B at_ m := fun i hi => by
              rw [G1.out i (by omega), List.getD_eq_getElem?_getD, List.getElem?_append_left (by simpa using hi), List.getElem?_replicate, if_pos hi]; rfl
            have hzero : bitAt B (at_ + m) = false := by
              rw [G1.out m (by omega), List.getD_eq_getElem?_getD, List.getElem?_append_right (by simp), List.length_replicate, Nat.sub_self]; rfl
            have HOK := Lib.hid (unary_ok r A3 c3 B at_ m 40 (RdF A3 B) (loc_rdf _ _) HRD.out HPB.out hBl (by omega) hones hzero (by omega))
            clear hIT hlen hones hzero G1
            go_wp2_with fail
            generalize wr.alloc (.cells #[.int .u64 nn, .int .i64 size, .int .u8 ones, .bool true] 56) = ws at HAL ⊢
            generalize wr.heap.size = g at HAL ⊢
            obtain ⟨Sx, T, hx, hT, hd, hiff⟩ := HAL.out.1
            have hTs := fun k (h : T k) => (hiff k).2 (.inr h)
            have hnt : ¬ T g := fun h => hd g ((hx.2 g).2 rfl) h
            have ST1 := Lib.hid ((ST.out.trans HAL.out.2).less hTs)
            have HT := Lib.hid hT
            have HNT := Lib.hid hnt
            have Y2 := Lib.hid (show ws.cell? ⟨g, 2, none⟩ = some (.int .u8 ones) from hx.cell 2)
            obtain ⟨GG, hGG⟩ : ∃ GG : World → Prop, GG = fun w => ∃ S2, RD r A3 c3 B (at_ + m + 1) false (RdF A3 B) w S2 ∧ ∀ k, S2 k → T k ∨ ws.heap.size ≤ k := ⟨_, rfl⟩
            have HGE : RowKit.Hid (∀ a b, GG a → Ext a b → GG b) := Lib.hid (by rw [hGG]; rintro a b ⟨S2, h, hf⟩ e; exact ⟨S2, Ext.keep (loc_bw_rd _ _ _ _ _ _) e h, hf⟩)
            have HGM : RowKit.Hid (∀ w S2, RD r A3 c3 B (at_ + m + 1) false (RdF A3 B) w S2 → (∀ k, S2 k → T k ∨ ws.heap.size ≤ k) → GG w) := Lib.hid (by rw [hGG]; exact fun w S2 h hf => ⟨S2, h, hf⟩)
            have HGO : RowKit.Hid (∀ w, GG w → ∃ S2, RD r A3 c3 B (at_ + m + 1) false (RdF A3 B) w S2 ∧ ∀ k, S2 k → T k ∨ ws.heap.size ≤ k) := Lib.hid (by rw [hGG]; exact fun w h => h)
            clear hT hTs hnt hx hd hiff HAL HW ST hGG x0 x1 x2 x3
            refine wp_region_relyD (by kernel_rfl) Ext (RK T GG) 1 1 (RK.ext HGE.out) Ext.refl Ext.trans (RK.refl _ _) (RK.trans _ _) [[(7, none)], [(79, some 0)], [(9, none)], [(81, some 2)], [(82, some 3)], [(83, some 4)], [(80, some 1), (84, some 5)]] [some 79, some 80, some 81, some 82, some 83, some 84, some 85] (by kernel_rfl) (by kernel_rfl) (by kernel_rfl) ?_
            -- 0: slot 79 := Op.move t7
            apply relyD_const_e (by decide) (by decide); case h => (intro wr hR a' h7 K hK; go_wp2_with fail; exact Ext.refl _)
            -- 1: slot 80 := Op.call { value (Operand.func 26), args := #[t79, const (40:i64)], argTypes := #[41, 3] }
            refine relyD_the rfl (fun v w => v = .int .i64 m ∧ GG w) (fun _ _ _ h r => ⟨h.1, r.2 h.2⟩) ?h1 ?_
            case h1 =>
              intro wr hR a' h79 K hK
              have HK := Lib.hid hK
              have hE := hR.undrew
              have HX := Lib.hid hE
              clear hK hE
              go_wp2_with fail
              refine (HOK.out _ _ (Ext.keep (loc_bw_rd _ _ _ _ _ _) HX.out HT.out)).mono ?_
              rintro e w2 ⟨S2, ⟨rfl, h2⟩, st2⟩
              have g2 := HGM.out w2 S2 h2 (fun q hq => (st2.fresh q hq).imp id (fun x => Nat.le_trans HX.out.size x))
              have hk2 : RK T GG wr w2 := ⟨st2.keep, fun _ => g2⟩
              have HK2 := Lib.hid hk2
              have HG2 := Lib.hid g2
              clear h2 st2 g2 hk2
              go_wp2_with fail
              exact HK.out _ _ HK2.out ⟨rfl, HG2.out⟩
            -- 2: slot 81 := Op.fieldAddr 56 t9 2
            apply relyD_const (by decide) (by decide); case h => (intro wr hR a' h9 K hK; go_wp2_with fail; exact Ext.refl _)
            -- 3: slot 82 := Op.load 5 t81
            apply relyD_const (by decide) (by decide); case h => (intro wr hR a' h81 K hK; have y2 := hR.1.cell Y2.out HNT.out; go_wp2_with fail; exact Ext.refl _)
            -- 4: slot 83 := Op.binOp BinOp.rem 5 t82 (const (40:u8)) 5
            apply relyD_const (by decide) (by decide); case h => (intro wr hR a' h82 K hK; go_wp2_with fail; exact Ext.refl _)
            -- 5: slot 84 := Op.convert 5 3 t83
            apply relyD_const (by decide) (by decide); case h => (intro wr hR a' h83 K hK; go_wp2_with fail; exact Ext.refl _)
            -- 6: slot 85 := Op.binOp BinOp.neq 3 t80 t84 3
            refine relyD_const (by decide) (by decide) (.bool false) ?h6 ?_
            case h6 =>
              rintro wr hR a' v h80 ⟨rfl, _⟩ h84 K hK
              go_wp2_with fail
              exact Ext.refl _
            refine relyD_end ?_
            intro wr hR
            simp only [ends, Act.put, List.setIfInBounds_toArray, List.set_cons_zero, List.set_cons_succ]
            rintro v80 ⟨_, hgg⟩
            obtain ⟨S2, h2, hf2⟩ := HGO.out _ hgg
            clear hgg
            have hst2 : Step T S2 ws wr := ⟨⟨hR.1.os, hR.1.tape, hR.1.output, hR.1.size, hR.1.block⟩, hf2⟩
            have H2 := Lib.hid h2
            have ST2 := Lib.hid (ST1.out.trans hst2)
            clear h2 hf2 hst2 hR
            go_wp2_with fail
            go_roundw
            case rel => exact ⟨k + 1, S2, by omega, rfl, by rw [HL.out]; exact H2.out, ST2.out⟩
            case measure => first | (simp [intOf]; done) | (simp [intOf]; omega)
          | false =>
            obtain ⟨n, rfl⟩ : ∃ n : Nat, nn = n := ⟨nn.toNat, by have := HO.out.n0; simp only at this; omega⟩
            have hnb : n < 18446744073709551616 := by have := HO.out.n1; simp only at this; omega
            have hIT : itB ⟨(n : Int), size, ones, false⟩ = bitsOf n (kOf size) := by unfold itB; rw [if_neg (by simp)]; simp only [Int.toNat_natCast]
            rw [hIT, bitsOf_length] at HL g3
            rw [hIT, bitsOf_length] at G1
            obtain ⟨k0, hk0⟩ : ∃ k0, k0 = kOf size := ⟨_, rfl⟩
            have hmm : min (max size 0) 64 = (k0 : Int) := by rw [hk0]; unfold kOf; omega
            have hk64 : k0 ≤ 64 := by rw [hk0]; exact kOf_le size
            have HTK0 := (take_c r A3 c3 B at_ size (RdF A3 B) (loc_rdf _ _) HRD.out HPB.out hBl (by omega)).frame (Lcl.blk wr.heap.size #[.int .u64 n, .int .i64 size, .int .u8 ones, .bool false] 56)
            rw [← hk0] at HL G1 g3 HTK0
            have hnum : num B at_ k0 = n % 2 ^ k0 := num_bits fun i hi => by rw [G1.out i hi, bitsOf_getD n k0 i hi]
            rw [hnum] at HTK0
            have HTK := Lib.hid HTK0
            clear HTK0 hIT hnum G1 hk0
            obtain ⟨q, hq⟩ : ∃ q, q = n % 2 ^ k0 := ⟨_, rfl⟩
            rw [← hq] at HTK
            by_cases h64 : k0 < 64
            · have hmask := mask_n n k0 h64
              have hwr : IntKind.u64.wrap (IntKind.u64.wrap ((2 : Int) ^ k0) - 1) = (2 : Int) ^ k0 - 1 := by
                have hlt : 2 ^ k0 ≤ 2 ^ 63 := Nat.pow_le_pow_right (by omega) (by omega)
                have hp : 0 < 2 ^ k0 := Nat.pow_pos (by omega)
                have e : (2 : Int) ^ k0 = ((2 ^ k0 : Nat) : Int) := by rw [Int.natCast_pow]; rfl
                rw [e, Bit.wrap64, Bit.wrap64]
                omega
              rw [← hwr, ← hq] at hmask
              have hkk : decide ((k0 : Int) < 64) = true := by simp; omega
              clear hwr hq
              go_wp2_with fail
              generalize wr.alloc (.cells #[.int .u64 n, .int .i64 size, .int .u8 ones, .bool false] 56) = ws at HAL ⊢
              generalize wr.heap.size = g at HAL HTK ⊢
              refine (HTK.out _ _ HAL.out.1.comm).mono ?_
              rintro e w5 ⟨S5, hf, st5⟩
              obtain ⟨rfl, h5⟩ := Sep.fact hf
              obtain ⟨T5, hT5, hs5⟩ := h5.left
              have H5 := Lib.hid hT5
              have ST5 := Lib.hid (((ST.out.trans HAL.out.2).trans st5).less hs5)
              clear hf h5 st5 hT5 hs5
              go_wp2_with fail
              refine (short_is r A3 c3 B _ false _ w5 _ H5.out).mono ?_
              rintro e w6 ⟨rfl, rfl⟩
              go_wp2_with fail
              go_roundw
              case rel => exact ⟨k + 1, T5, by omega, rfl, by rw [HL.out]; exact H5.out, ST5.out⟩
              case measure => first | (simp [intOf]; done) | (simp [intOf]; omega)
            · obtain rfl : k0 = 64 := by omega
              have hpw : n % 2 ^ 64 = n := Nat.mod_eq_of_lt (by omega)
              obtain rfl : q = n := hq.trans hpw
              clear hq hpw
              go_wp2_with fail
              generalize wr.alloc (.cells #[.int .u64 q, .int .i64 size, .int .u8 ones, .bool false] 56) = ws at HAL ⊢
              generalize wr.heap.size = g at HAL HTK ⊢
              refine (HTK.out _ _ HAL.out.1.comm).mono ?_
              rintro e w5 ⟨S5, hf, st5⟩
              obtain ⟨rfl, h5⟩ := Sep.fact hf
              obtain ⟨T5, hT5, hs5⟩ := h5.left
              have H5 := Lib.hid hT5
              have ST5 := Lib.hid (((ST.out.trans HAL.out.2).trans st5).less hs5)
              clear hf h5 st5 hT5 hs5
              go_wp2_with fail
              refine (short_is r A3 c3 B _ false _ w5 _ H5.out).mono ?_
              rintro e w6 ⟨rfl, rfl⟩
              go_wp2_with fail
              go_roundw
              case rel => exact ⟨k + 1, T5, by omega, rfl, by rw [HL.out]; exact H5.out, ST5.out⟩
              case measure => first | (simp [intOf]; done) | (simp [intOf]; omega)
        · obtain rfl : k = xs.length := by omega
          rw [HLE.out] at HW
          go_wp2_with fail
          refine (end_ok r A3 c3 B L.length (RdF A3 B) HRD.out HPB.out hBl (by omega) (by omega) (fun i hi => by rw [HPA.out, List.getD_eq_getElem?_getD, List.getElem?_eq_none hi]; rfl) _ _ HW.out).mono ?_
          rintro e w6 ⟨rfl, nq, rfl⟩
          have HT7 := Lib.hid (drewN_of (loc_bw_rd _ _ _ _ _ _) HW.out nq)
          go_wp2_with fail
          refine (at_is r A3 c3 B L.length false _ _ _ HT7.out).mono ?_
          rintro e w7 ⟨rfl, rfl⟩
          go_wp2_with fail
          go_ret
          exact ⟨rfl, below_of (ST.out.drewN nq)⟩
end Go.Proofs.Ytpgnlpcnancplaa.Bits
