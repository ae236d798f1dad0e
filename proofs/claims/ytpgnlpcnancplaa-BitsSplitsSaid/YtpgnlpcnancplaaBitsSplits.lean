/- The law BitsSplits, at every input. -/
import Derived.Test.YtpgnlpcnancplaaBitsV
namespace Go.Proofs.Ytpgnlpcnancplaa.Bits
open Go.RowKit Go.Proofs.Ytpgnlpcnancplaa.Own Go.Proofs.Ytpgnlpcnancplaa.Rely

theorem bitsOf_split (n y : Nat) : ∀ x, bitsOf n (x + y) = bitsOf (n / 2 ^ y) x ++ bitsOf n y
  | 0 => by simp [bitsOf]
  | x + 1 => by
    rw [show x + 1 + y = (x + y) + 1 by omega]
    simp only [bitsOf, List.cons_append]
    rw [bitsOf_split n y x, Nat.div_div_eq_div_mul, ← Nat.pow_add, Nat.add_comm y x]

set_option maxHeartbeats 4000000 in
theorem splits_law (n a b h : Nat) (w : World) (hn : n < 18446744073709551616) (ha : a ≤ 255) (hb : b ≤ 255) (hh : h ≤ 255) :
    Calls Try.prog 4 #[.int .u64 n, .int .u8 a, .int .u8 b, .int .u8 h] w fun e w' => e = .returned (.bool true) ∧ Below w.heap.size w w' := by
  obtain ⟨x, hx⟩ : ∃ x : Nat, (a : Int) % 33 = x := ⟨a % 33, by omega⟩
  obtain ⟨y, hy⟩ : ∃ y : Nat, (b : Int) % 32 = y := ⟨b % 32, by omega⟩
  obtain ⟨g, hg⟩ : ∃ g : Nat, (h : Int) % 8 = g := ⟨h % 8, by omega⟩
  have x1 : x ≤ 32 := by omega
  have y1 : y ≤ 31 := by omega
  have g1 : g ≤ 7 := by omega
  have hem : Emp w (fun _ => False) := fun _ x => x
  have HE := Lib.hid hem
  have HN := Lib.hid hn
  clear hem hn
  go_enter Try.func4, Try.ntmps4
  go_wp2_with fail
  refine (awake_tri _ _ HE.out).mono ?_
  rintro e w1 ⟨S1, ⟨rfl, h1⟩, st1⟩
  have HB1 := Lib.hid (below_of st1)
  clear h1 st1
  have n1 := new_bw Lcl.emp (w := w1) (S := fun _ => False) (fun _ x => x)
  have N1 := Lib.hid n1
  have n2 := new_bw ((loc_bw _ _).sep Lcl.emp) n1.1
  have N2 := Lib.hid n2
  clear n1 n2
  have hsz : (w1.alloc (.cells #[.slice none 0 0, .int .i64 0] 36)).heap.size = w1.heap.size + 1 := by simp
  go_wp2_with fail
  have h0 := N2.out.1.second
  have st0 := N1.out.2.trans N2.out.2
  rw [hsz] at h0 st0
  clear N1 N2
  generalize (w1.alloc (.cells #[.slice none 0 0, .int .i64 0] 36)).alloc (.cells #[.slice none 0 0, .int .i64 0] 36) = w2 at h0 st0 ⊢
  clear hsz
  generalize w1.heap.size + 1 = q at h0 st0 ⊢
  generalize w1.heap.size = p at h0 st0 ⊢
  have H2 := Lib.hid h0
  have ST2 := Lib.hid st0
  clear h0 st0
  have HLL : RowKit.Hid (x ≤ 32 ∧ y ≤ 31 ∧ g ≤ 7) := ⟨x1, y1, g1⟩
  have HNY : RowKit.Hid ((n : Int) / 2 ^ y = ((n / 2 ^ y : Nat) : Int)) := Lib.hid (by rw [Int.natCast_ediv, Int.natCast_pow]; rfl)
  have hnd : n / 2 ^ y < 18446744073709551616 := Nat.lt_of_le_of_lt (Nat.div_le_self _ _) HN.out
  have hp := put_tri p [] 1 g (by omega) (by omega) (by have := HLL.out; simp [bitsOf_length] <;> omega)
  refine (hp.frame ((loc_bw _ _).sep Lcl.emp) _ _ H2.out).mono ?_
  rintro e w3 ⟨S3, hf, st⟩
  obtain ⟨rfl, h2⟩ := Sep.fact hf
  have H3 := Lib.hid h2
  have ST3 := Lib.hid (ST2.out.trans st)
  clear hf h2 st hp H2 ST2
  go_wp2_with fail
  have h3 := Lib.hid H3.out.second
  clear H3
  have H3 := h3
  clear h3
  have hp := put_tri q [] 1 g (by omega) (by omega) (by have := HLL.out; simp [bitsOf_length] <;> omega)
  refine (hp.frame ((loc_bw _ _).sep Lcl.emp) _ _ H3.out).mono ?_
  rintro e w4 ⟨S4, hf, st⟩
  obtain ⟨rfl, h2⟩ := Sep.fact hf
  have H4 := Lib.hid h2
  have ST4 := Lib.hid (ST3.out.trans st)
  clear hf h2 st hp H3 ST3
  go_wp2_with fail
  have h4 := Lib.hid H4.out.second
  clear H4
  have H4 := h4
  clear h4
  have hp := put_tri p ([] ++ bitsOf 1 g) n (x + y) HN.out (by omega) (by have := HLL.out; simp [bitsOf_length] <;> omega)
  rw [Int.natCast_add] at hp
  refine (hp.frame ((loc_bw _ _).sep Lcl.emp) _ _ H4.out).mono ?_
  rintro e w5 ⟨S5, hf, st⟩
  obtain ⟨rfl, h2⟩ := Sep.fact hf
  have H5 := Lib.hid h2
  have ST5 := Lib.hid (ST4.out.trans st)
  clear hf h2 st hp H4 ST4
  go_wp2_with fail
  have h5 := Lib.hid H5.out.second
  clear H5
  have H5 := h5
  clear h5
  have hp := put_tri q ([] ++ bitsOf 1 g) (n / 2 ^ y) x hnd (by omega) (by have := HLL.out; simp [bitsOf_length] <;> omega)
  rw [← HNY.out] at hp
  refine (hp.frame ((loc_bw _ _).sep Lcl.emp) _ _ H5.out).mono ?_
  rintro e w6 ⟨S6, hf, st⟩
  obtain ⟨rfl, h2⟩ := Sep.fact hf
  have H6 := Lib.hid h2
  have ST6 := Lib.hid (ST5.out.trans st)
  clear hf h2 st hp H5 ST5
  go_wp2_with fail
  have hp := put_tri q ([] ++ bitsOf 1 g ++ bitsOf (n / 2 ^ y) x) n y HN.out (by omega) (by have := HLL.out; simp [bitsOf_length] <;> omega)
  refine (hp.frame ((loc_bw _ _).sep Lcl.emp) _ _ H6.out).mono ?_
  rintro e w7 ⟨S7, hf, st⟩
  obtain ⟨rfl, h2⟩ := Sep.fact hf
  have H7 := Lib.hid h2
  have ST7 := Lib.hid (ST6.out.trans st)
  clear hf h2 st hp H6 ST6
  go_wp2_with fail
  have h7 := H7.out
  have hq : [] ++ bitsOf 1 g ++ bitsOf (n / 2 ^ y) x ++ bitsOf n y = [] ++ bitsOf 1 g ++ bitsOf n (x + y) := by rw [bitsOf_split, List.append_assoc]
  rw [hq] at h7
  have hLl : ([] ++ bitsOf 1 g ++ bitsOf n (x + y)).length ≤ 1000000000 := by have := HLL.out; simp [bitsOf_length] <;> omega
  generalize [] ++ bitsOf 1 g ++ bitsOf n (x + y) = L at h7 hLl
  have hL := Lib.hid hLl
  obtain ⟨TQ0, htq, _⟩ := h7.left
  obtain ⟨TP0, htp, _⟩ := h7.second.left
  have TQ := Lib.hid htq
  have TP := Lib.hid htp
  clear h7 hq hLl htq htp H7
  refine wp_region_rely (by kernel_rfl) Ext Ext.refl Ext.trans [[(11, none)], [(51, some 0)], [(12, none)], [(53, some 2)], [(52, some 1), (54, some 3)], [(55, some 4)], [(11, none)], [(57, some 6)], [(58, some 7)], [(12, none)], [(60, some 9)], [(61, some 10)], [(59, some 8), (62, some 11)], [(56, some 5), (63, some 12)], [(64, some 13)]] [some 51, some 52, some 53, some 54, some 55, some 56, some 57, some 58, some 59, some 60, some 61, some 62, some 63, some 64, some 8] (by kernel_rfl) (by kernel_rfl) ?_
  -- 0: slot 51 := Op.move t11
  apply rely_const; case h => (intro wr hR a' h11 K hK; go_wp2_with fail; exact Ext.refl _)
  -- 1: slot 52 := Op.call { value (Operand.func 22), args := #[t51], argTypes := #[34] }
  apply rely_const
  case h =>
    intro wr hR a' h51 K hK
    go_wp2_with fail
    refine (len_is p L wr _ (Ext.keep (loc_bw _ _) hR.undrew TP.out)).mono ?_
    rintro e w2 ⟨rfl, rfl⟩
    go_wp2_with fail
    exact Ext.refl _
  -- 2: slot 53 := Op.move t12
  apply rely_const; case h => (intro wr hR a' h12 K hK; go_wp2_with fail; exact Ext.refl _)
  -- 3: slot 54 := Op.call { value (Operand.func 22), args := #[t53], argTypes := #[34] }
  apply rely_const
  case h =>
    intro wr hR a' h53 K hK
    go_wp2_with fail
    refine (len_is q L wr _ (Ext.keep (loc_bw _ _) hR.undrew TQ.out)).mono ?_
    rintro e w2 ⟨rfl, rfl⟩
    go_wp2_with fail
    exact Ext.refl _
  -- 4: slot 55 := Op.binOp BinOp.eql 3 t52 t54 3
  apply rely_const; case h => (intro wr hR a' h52 h54 K hK; go_wp2_with fail; exact Ext.refl _)
  -- 5: slot 56 := Op.move t55
  apply rely_const; case h => (intro wr hR a' h55 K hK; go_wp2_with fail; exact Ext.refl _)
  -- 6: slot 57 := Op.move t11 GUARD 5 true
  apply rely_const_in _ rfl; case h => (intro wr hR a' h11 K hK; go_wp2_with fail; exact Ext.refl _)
  -- 7: slot 58 := Op.call { value (Operand.func 23), args := #[t57], argTypes := #[34] } GUARD 5 true
  refine rely_rel_in (fun v wr => ∃ A c, v = .slice A (pack L).length c ∧ Reads wr .u8 A (pack L)) (fun v w w' ⟨A, c, e, k⟩ x => ⟨A, c, e, x.reads k⟩) rfl ?_ ?_
  · intro wr hR a' h57 K hK
    have HK := Lib.hid hK
    clear hK
    go_wp2_with fail
    refine (bytes_c p L hL.out wr _ (Ext.keep (loc_bw _ _) hR.undrew TP.out)).mono ?_
    rintro e w2 ⟨A, c, rfl, _, hr, hb⟩
    go_wp2_with fail
    exact HK.out _ _ hb ⟨A, c, rfl, hr⟩
  -- 8: slot 59 := Op.convert 26 9 t58 GUARD 5 true
  apply rely_const_in _ rfl
  case h =>
    rintro wr hR a' v h58 ⟨A, c, rfl, hr⟩ K hK
    have hcv := hr.string (P := Try.prog) Try.underlying26 Try.underlying5 Try.underlying9 c
    go_wp2_with fail
    exact Ext.refl _
  -- 9: slot 60 := Op.move t12 GUARD 5 true
  apply rely_const_in _ rfl; case h => (intro wr hR a' h12 K hK; go_wp2_with fail; exact Ext.refl _)
  -- 10: slot 61 := Op.call { value (Operand.func 23), args := #[t60], argTypes := #[34] } GUARD 5 true
  refine rely_rel_in (fun v wr => ∃ A c, v = .slice A (pack L).length c ∧ Reads wr .u8 A (pack L)) (fun v w w' ⟨A, c, e, k⟩ x => ⟨A, c, e, x.reads k⟩) rfl ?_ ?_
  · intro wr hR a' h60 K hK
    have HK := Lib.hid hK
    clear hK
    go_wp2_with fail
    refine (bytes_c q L hL.out wr _ (Ext.keep (loc_bw _ _) hR.undrew TQ.out)).mono ?_
    rintro e w2 ⟨A, c, rfl, _, hr, hb⟩
    go_wp2_with fail
    exact HK.out _ _ hb ⟨A, c, rfl, hr⟩
  -- 11: slot 62 := Op.convert 26 9 t61 GUARD 5 true
  apply rely_const_in _ rfl
  case h =>
    rintro wr hR a' v h61 ⟨A, c, rfl, hr⟩ K hK
    have hcv := hr.string (P := Try.prog) Try.underlying26 Try.underlying5 Try.underlying9 c
    go_wp2_with fail
    exact Ext.refl _
  -- 12: slot 63 := Op.binOp BinOp.eql 9 t59 t62 9 GUARD 5 true
  apply rely_const_in _ rfl; case h => (intro wr hR a' h59 h62 K hK; go_wp2_with fail; exact Ext.refl _)
  -- 13: slot 64 := Op.pick t56 t63 (const (Value.bool false))
  apply rely_const; case h => (intro wr hR a' h56 h63 K hK; go_wp2_with fail; exact Ext.refl _)
  -- 14: slot 8 := Op.assign t64
  apply rely_const; case h => (intro wr hR a' h64 K hK; go_wp2_with fail; exact Ext.refl _)
  refine rely_end ?_
  intro wr hR
  simp only [ends, Act.put, List.setIfInBounds_toArray, List.set_cons_zero, List.set_cons_succ]
  intro u1 hu1 u2 hu2
  go_wp2_with fail
  go_ret
  exact ⟨rfl, hR.undrew.after (Below.trans HB1.out (Below.mono (below_of ST7.out) HB1.out.size)) (Nat.le_trans HB1.out.size (below_of ST7.out).size)⟩

theorem splits_wf (n a b h : Int) (w : World) (hn : (Lit.int .u64 n).wf = true) (ha : (Lit.int .u8 a).wf = true) (hb : (Lit.int .u8 b).wf = true) (hh : (Lit.int .u8 h).wf = true) :
    Calls Try.prog 4 #[.int .u64 n, .int .u8 a, .int .u8 b, .int .u8 h] w fun e w' => e = .returned (.bool true) ∧ Below w.heap.size w w' := by
  have hn' : (decide (0 ≤ n) && decide (n ≤ 18446744073709551615)) = true := hn
  have ha' : (decide (0 ≤ a) && decide (a ≤ 255)) = true := ha
  have hb' : (decide (0 ≤ b) && decide (b ≤ 255)) = true := hb
  have hh' : (decide (0 ≤ h) && decide (h ≤ 255)) = true := hh
  simp only [Bool.and_eq_true, decide_eq_true_eq] at hn' ha' hb' hh'
  obtain ⟨n, rfl⟩ := Int.eq_ofNat_of_zero_le hn'.1
  obtain ⟨a, rfl⟩ := Int.eq_ofNat_of_zero_le ha'.1
  obtain ⟨b, rfl⟩ := Int.eq_ofNat_of_zero_le hb'.1
  obtain ⟨h, rfl⟩ := Int.eq_ofNat_of_zero_le hh'.1
  exact splits_law n a b h w (by omega) (by omega) (by omega) (by omega)
end Go.Proofs.Ytpgnlpcnancplaa.Bits
