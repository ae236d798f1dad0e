/- The law CrcSums: any bytes: their sum; with it behind they are right. -/
import Derived.Test.YthemincohmgihaaCrcD
import Derived.Test.YthemincohmgihaaCrcAny
namespace Go.Proofs.Ythemincohmgihaa.Crc
open Go.RowKit Go.Proofs.Ythemincohmgihaa.Own Go.Proofs.Ythemincohmgihaa.Rely

theorem put_right {xs : List Int} (hx : IsBytes xs) : rightB (xs ++ wd (sum xs).toNat) = true := by
  have hl : (xs ++ wd (sum xs).toNat).length = xs.length + 4 := by simp [wd]
  unfold rightB
  rw [hl, decide_eq_true_eq, show xs.length + 4 - 4 = xs.length by omega, List.drop_left, List.take_left]
  exact ⟨by omega, rfl⟩
theorem changed_right {x : List Int} (hx : IsBytes x) (hr : rightB x = true) {p : Nat} (hp : p < x.length) {e : Int} (he : 0 ≤ e ∧ e ≤ 255) (hy : IsBytes (x.set p (bits .xor .u8 (x.getD p 0) e))) : rightB (x.set p (bits .xor .u8 (x.getD p 0) e)) = decide (e = 0) := by
  have h1 := (rightB_iff hx).1 hr
  have h2 : rightB (x.set p (bits .xor .u8 (x.getD p 0) e)) = true ↔ e = 0 := by
    rw [rightB_iff hy, List.length_set, crcs_set _ _ _ _ hp hx he, h1.2]
    constructor
    · rintro ⟨_, h3⟩
      have h4 : sts (8 * (x.length - p)) (BitVec.ofInt 32 e) = 0#32 := by
        have h5 := congrArg (fun z => RES ^^^ z) h3
        simp only [← BitVec.xor_assoc, BitVec.xor_self, BitVec.zero_xor] at h5
        exact h5
      have h6 := congrArg BitVec.toNat (sts_eq_zero _ h4)
      rw [BitVec.toNat_ofInt] at h6
      simp only [BitVec.toNat_zero] at h6
      omega
    · rintro rfl
      refine ⟨h1.1, ?_⟩
      rw [show BitVec.ofInt 32 0 = 0#32 by decide, sts_zero, BitVec.xor_zero]
  by_cases h : e = 0
  · rw [decide_eq_true h]; exact h2.2 h
  · rw [decide_eq_false h]
    cases hb : rightB (x.set p (bits .xor .u8 (x.getD p 0) e)) with
    | false => rfl
    | true => exact absurd (h2.1 hb) h
theorem set_bytes {x : List Int} (hx : IsBytes x) (p : Nat) {e : Int} (he : 0 ≤ e ∧ e ≤ 255) : IsBytes (x.set p e) := by
  intro z hz
  rcases List.mem_or_eq_of_mem_set hz with hz | rfl
  · exact hx z hz
  · exact he

theorem readsAny {e : TypeId} {k : IntKind} {A : Option Addr} {n c : Nat} {xs : List Int} {w : World} {S : Nat → Prop} (h : Row e k (.slice A n c) xs w S) : Reads w k A xs ∧ xs.length ≤ c ∧ c ≤ maxLen := by
  obtain ⟨A', c', q, hc, hr, _⟩ := h.reads
  obtain ⟨A2, c2, q2, h2, h3⟩ := h.shape
  injection q with q1 q3 q4
  injection q2 with q5 q6 q7
  subst q1 q4 q7
  exact ⟨hr, hc, h3⟩

set_option maxHeartbeats 4000000 in
set_option maxRecDepth 20000 in
theorem sums_wf (A : Option Addr) (c : Nat) (xs : List Int) (pos by_ : Int) (w : World) (h : ArgI w .u8 A c xs) (hpos : (Lit.int .u16 pos).wf = true) (hby : (Lit.int .u8 by_).wf = true) :
    Calls Try.prog 9 #[.slice A xs.length c, .int .u16 pos, .int .u8 by_] w fun e w' => e = .returned (.bool true) ∧ Below w.heap.size w w' := by
  have HR := Lib.hid h.reads
  have HB := Lib.hid (show IsBytes xs from fun x hx => wf_u8 (h.rng x hx))
  have HY := Lib.hid (wf_u8 hby)
  have h16 := wf_u16 hpos
  obtain ⟨t, rfl⟩ := Int.eq_ofNat_of_zero_le h16.1
  have ht : t ≤ 65535 := by omega
  clear h hpos hby h16
  by_cases h2 : 200 < xs.length
  · go_enter Try.func9, Try.ntmps9
    go_wp2_with fail
    refine (awake_calls w).mono ?_
    rintro e w1 ⟨rfl, hb1⟩
    go_wp2_with fail
    go_ret
    exact ⟨rfl, hb1⟩
  go_enter Try.func9, Try.ntmps9
  go_wp2_with fail
  refine (awake_calls w).mono ?_
  rintro e w1 ⟨rfl, hb1⟩
  have hs := put_calls w1 A c xs (HR.out.later hb1) HB.out (by omega)
  obtain ⟨m, hm⟩ : ∃ m, xs.length + 4 = m := ⟨_, rfl⟩
  obtain ⟨X, hX⟩ : ∃ X, xs ++ wd (sum xs).toNat = X := ⟨_, rfl⟩
  have hXl : X.length = m := by rw [← hX, ← hm]; simp [wd]
  have HXB := Lib.hid (show IsBytes X by rw [← hX]; intro x hx; rcases List.mem_append.1 hx with hx | hx; exact HB.out x hx; exact wd_bytes _ x hx)
  have HXR := Lib.hid (show rightB X = true by rw [← hX]; exact put_right HB.out)
  obtain ⟨p, hp⟩ : ∃ p, t % m = p := ⟨_, rfl⟩
  have hpm : p < m := by rw [← hp]; exact Nat.mod_lt _ (by omega)
  have hpi : (t : Int).tmod (m : Int) = (p : Int) := by rw [Int.tmod_eq_emod_of_nonneg (by omega)]; omega
  have hpi2 : (t : Int) % (m : Int) = (p : Int) := by omega
  clear hp
  have hm4 : 4 ≤ m := by omega
  have hm2 : m ≤ 204 := by omega
  rw [hm, hX] at hs
  have HS := Lib.hid hs
  have HXL := Lib.hid hXl
  have HX := Lib.hid hX
  clear hs hXl hX hm
  go_wp2_with fail
  refine HS.out.mono ?_
  rintro e w2 ⟨A1, c1, S1, rfl, hrow, st⟩
  have he := sepEmpty (Lcl.row _ _ _ _) hrow 5 .u8
  have HE := Lib.hid he.1
  have ST := Lib.hid (Step.trans (S := fun _ => False) (S' := fun _ => False) ⟨.of_below hb1, fun _ x => x.elim⟩ (st.trans he.2))
  obtain ⟨T0, hT0, _⟩ := he.1.comm.left
  have HRX := Lib.hid (readsAny hT0).1
  clear he st hT0
  go_wp2_with (at_builtin; refine append_row _ rfl _ _ 34 rfl 5 .u8 1 Try.underlying34 info_u8 (by decide) _ [] X A1 m c1 rfl rfl HXL.out.symm (Lcl.row _ _ _ _) HE.out HRX.out (by rw [HXL.out]; simp; omega) ?_; intro A2 c2 w3 S3 h3 st3; simp only [List.length_nil, Nat.zero_add, List.nil_append] at h3 ⊢; have H3 := Lib.hid h3; have ST3 := Lib.hid (ST.out.trans st3); obtain ⟨T3, hT3, _⟩ := h3.left; obtain ⟨g, cap, eg, _, _⟩ := hT3.form (by rw [HXL.out]; omega); injection eg with e1 e2 e3; subst e1 e3; have f0 := hT3.free p; have c0 := hT3.cell (i := p) (by rw [HXL.out]; exact hpm); obtain ⟨z, hz⟩ : ∃ z, X.getD p 0 = z := ⟨_, rfl⟩; rw [hz] at c0; have HZ := Lib.hid hz; clear h3 st3 hT3 hz e2)
  have hs4 := sepSet (Lcl.row _ _ _ _) H3.out p (bits .xor .u8 z by_)
  obtain ⟨Y, hY⟩ : ∃ Y, X.set p (bits .xor .u8 z by_) = Y := ⟨_, rfl⟩
  have hYb : IsBytes Y := by rw [← hY]; exact set_bytes HXB.out p (xor_byte _ _)
  have HYB := Lib.hid hYb
  have HYL := Lib.hid (show Y.length = m by rw [← hY, List.length_set, HXL.out])
  obtain ⟨q, hq⟩ : ∃ q, decide (by_ = 0) = q := ⟨_, rfl⟩
  have HYR := Lib.hid (show rightB Y = q by
    rw [← hq, ← hY, ← HZ.out]
    rw [← HZ.out] at hY
    exact changed_right HXB.out HXR.out (by rw [HXL.out]; exact hpm) HY.out (by rw [hY]; exact hYb))
  have hq1 : (by_ == 0) = q := by rw [← hq]; rfl
  rw [hY] at hs4
  obtain ⟨T4, hT4, _⟩ := hs4.1.left
  obtain ⟨T5, hT5, _⟩ := hs4.1.comm.left
  have RY := Lib.hid (readsAny hT4).1
  have RX := Lib.hid (readsAny hT5).1
  have hmc2 := (readsAny hT4).2.1
  have hmc1 := (readsAny hT5).2.1
  rw [HYL.out] at hmc2
  rw [HXL.out] at hmc1
  have SB := Lib.hid (step_below (ST3.out.trans hs4.2))
  have RXS := Lib.hid (HR.out.later SB.out)
  have HX3 := Lib.hid (show rightB (X.take 3) = false by unfold rightB; rw [decide_eq_false]; rintro ⟨q1, _⟩; rw [List.length_take] at q1; omega)
  have HX3l := Lib.hid (show (X.take 3).length = 3 by rw [List.length_take, HXL.out]; omega)
  generalize w3.setCell ⟨g, p, none⟩ (.int .u8 (bits .xor .u8 z by_)) = w4 at *
  clear hs4 hT4 hT5 hY hq hYb c0 f0
  refine wp_region_rely (by kernel_rfl) Ext Ext.refl Ext.trans [[(0, none)], [(30, some 0)], [(0, none)], [(32, some 2)], [(31, some 1), (33, some 3)], [(34, some 4)], [(7, none)], [(36, some 6)], [(0, none)], [(38, some 8)], [(37, some 7), (39, some 9)], [(35, some 5), (40, some 10)], [(41, some 11)], [(7, none)], [(43, some 13)], [(42, some 12), (44, some 14)], [(45, some 15)], [(8, none)], [(47, some 17)], [(2, none)], [(49, some 19)], [(48, some 18), (50, some 20)], [(46, some 16), (51, some 21)], [(52, some 22)], [(7, none)], [(54, some 24)], [(55, some 25)], [(56, some 26)], [(53, some 23), (57, some 27)], [(58, some 28)]] [some 30, some 31, some 32, some 33, some 34, some 35, some 36, some 37, some 38, some 39, some 40, some 41, some 42, some 43, some 44, some 45, some 46, some 47, some 48, some 49, some 50, some 51, some 52, some 53, some 54, some 55, some 56, some 57, some 58, some 6] (by kernel_rfl) (by kernel_rfl) ?_
  -- 0: slot 30 := Op.move t0
  apply rely_const; case h => (intro wr hR a h0 K hK; go_wp2_with fail; exact Ext.refl _)
  -- 1: slot 31 := Op.call { value (Operand.func 22), args := #[t30], argTypes := #[34] }
  apply rely_const
  case h =>
    intro wr hR a h30 K hK
    have hs := sum_calls wr A c xs (hR.undrew.reads RXS.out) HB.out (by omega)
    go_wp2_with fail
    refine (hs).mono ?_
    rintro e w2 ⟨rfl, hb⟩
    go_wp2_with fail
    exact hb
  -- 2: slot 32 := Op.move t0
  apply rely_const; case h => (intro wr hR a h0 K hK; go_wp2_with fail; exact Ext.refl _)
  -- 3: slot 33 := Op.call { value (Operand.func 27), args := #[t32], argTypes := #[34] }
  apply rely_const
  case h =>
    intro wr hR a h32 K hK
    have hs := refsum_calls wr A c xs (hR.undrew.reads RXS.out) HB.out (by omega)
    go_wp2_with fail
    refine (hs).mono ?_
    rintro e w2 ⟨rfl, hb⟩
    go_wp2_with fail
    exact hb
  -- 4: slot 34 := Op.binOp BinOp.eql 22 t31 t33 22
  apply rely_const; case h => (intro wr hR a h31 h33 K hK; go_wp2_with fail; exact Ext.refl _)
  -- 5: slot 35 := Op.move t34
  apply rely_const; case h => (intro wr hR a h34 K hK; go_wp2_with fail; exact Ext.refl _)
  -- 6: slot 36 := Op.move t7 GUARD 5 true
  apply rely_const_in _ rfl; case h => (intro wr hR a h7 K hK; go_wp2_with fail; exact Ext.refl _)
  -- 7: slot 37 := Op.convert 34 9 t36
  apply rely_const_in _ rfl
  case h =>
    intro wr hR a h36 K hK
    have hcv := (hR.undrew.reads RX.out).string (P := Try.prog) Try.underlying34 Try.underlying5 Try.underlying9 c1
    rw [HXL.out] at hcv
    go_wp2_with fail
    exact Ext.refl _
  -- 8: slot 38 := Op.move t0 GUARD 5 true
  apply rely_const_in _ rfl; case h => (intro wr hR a h0 K hK; go_wp2_with fail; exact Ext.refl _)
  -- 9: slot 39 := Op.call { value (Operand.func 24), args := #[t38], argTypes := #[34] } GUARD 5 true
  apply rely_const_in _ rfl
  case h =>
    intro wr hR a h38 K hK
    have hs := summed_calls wr A c xs (hR.undrew.reads RXS.out) HB.out (by omega)
    rw [str_app, HX.out] at hs
    go_wp2_with fail
    refine (hs).mono ?_
    rintro e w2 ⟨rfl, hb⟩
    go_wp2_with fail
    exact hb
  -- 10: slot 40 := Op.binOp BinOp.eql 9 t37 t39 9 GUARD 5 true
  apply rely_const_in _ rfl; case h => (intro wr hR a h37 h39 K hK; go_wp2_with fail; exact Ext.refl _)
  -- 11: slot 41 := Op.pick t35 t40 (const (Value.bool false))
  apply rely_const; case h => (intro wr hR a h35 h40 K hK; go_wp2_with fail; exact Ext.refl _)
  -- 12: slot 42 := Op.move t41
  apply rely_const; case h => (intro wr hR a h41 K hK; go_wp2_with fail; exact Ext.refl _)
  -- 13: slot 43 := Op.move t7 GUARD 12 true
  apply rely_const_in _ rfl; case h => (intro wr hR a h7 K hK; go_wp2_with fail; exact Ext.refl _)
  -- 14: slot 44 := Op.call { value (Operand.func 25), args := #[t43], argTypes := #[34] } GUARD 12 true
  apply rely_const_in _ rfl
  case h =>
    intro wr hR a h43 K hK
    have hs := right_calls wr A1 c1 X (hR.undrew.reads RX.out) HXB.out (by rw [HXL.out]; omega) (by rw [HXL.out]; exact hmc1)
    rw [HXR.out, HXL.out] at hs
    go_wp2_with fail
    refine (hs).mono ?_
    rintro e w2 ⟨rfl, hb⟩
    go_wp2_with fail
    exact hb
  -- 15: slot 45 := Op.pick t42 t44 (const (Value.bool false))
  apply rely_const; case h => (intro wr hR a h42 h44 K hK; go_wp2_with fail; exact Ext.refl _)
  -- 16: slot 46 := Op.move t45
  apply rely_const; case h => (intro wr hR a h45 K hK; go_wp2_with fail; exact Ext.refl _)
  -- 17: slot 47 := Op.move t8 GUARD 16 true
  apply rely_const_in _ rfl; case h => (intro wr hR a h8 K hK; go_wp2_with fail; exact Ext.refl _)
  -- 18: slot 48 := Op.call { value (Operand.func 25), args := #[t47], argTypes := #[34] } GUARD 16 true
  apply rely_const_in _ rfl
  case h =>
    intro wr hR a h47 K hK
    have hs := right_calls wr (some ⟨g, 0, none⟩) c2 Y (hR.undrew.reads RY.out) HYB.out (by rw [HYL.out]; omega) (by rw [HYL.out]; exact hmc2)
    rw [HYR.out, HYL.out] at hs
    go_wp2_with fail
    refine (hs).mono ?_
    rintro e w2 ⟨rfl, hb⟩
    go_wp2_with fail
    exact hb
  -- 19: slot 49 := Op.move t2 GUARD 16 true
  apply rely_const_in _ rfl; case h => (intro wr hR a h2 K hK; go_wp2_with fail; exact Ext.refl _)
  -- 20: slot 50 := Op.binOp BinOp.eql 5 t49 (const (0:u8)) 5 GUARD 16 true
  apply rely_const_in _ rfl; case h => (intro wr hR a h49 K hK; go_wp2_with fail; exact Ext.refl _)
  -- 21: slot 51 := Op.binOp BinOp.eql 4 t48 t50 4 GUARD 16 true
  apply rely_const_in _ rfl; case h => (intro wr hR a h48 h50 K hK; go_wp2_with fail; exact Ext.refl _)
  -- 22: slot 52 := Op.pick t46 t51 (const (Value.bool false))
  apply rely_const; case h => (intro wr hR a h46 h51 K hK; go_wp2_with fail; exact Ext.refl _)
  -- 23: slot 53 := Op.move t52
  apply rely_const; case h => (intro wr hR a h52 K hK; go_wp2_with fail; exact Ext.refl _)
  -- 24: slot 54 := Op.move t7 GUARD 23 true
  apply rely_const_in _ rfl; case h => (intro wr hR a h7 K hK; go_wp2_with fail; exact Ext.refl _)
  -- 25: slot 55 := Op.slice 34 t54 none (some (const (3:i64))) none GUARD 23 true
  apply rely_const_in _ rfl; case h => (intro wr hR a h54 K hK; go_wp2_with fail; exact Ext.refl _)
  -- 26: slot 56 := Op.call { value (Operand.func 25), args := #[t55], argTypes := #[34] } GUARD 23 true
  apply rely_const_in _ rfl
  case h =>
    intro wr hR a h55 K hK
    have hs := right_calls wr A1 c1 (X.take 3) ((hR.undrew.reads RX.out).take 3) (take_bytes HXB.out 3) (by simp; omega) (by simp; omega)
    rw [HX3.out, HX3l.out] at hs
    go_wp2_with fail
    refine (hs).mono ?_
    rintro e w2 ⟨rfl, hb⟩
    go_wp2_with fail
    exact hb
  -- 27: slot 57 := Op.unOp UnOp.not 4 t56 GUARD 23 true
  apply rely_const_in _ rfl; case h => (intro wr hR a h56 K hK; go_wp2_with fail; exact Ext.refl _)
  -- 28: slot 58 := Op.pick t53 t57 (const (Value.bool false))
  apply rely_const; case h => (intro wr hR a h53 h57 K hK; go_wp2_with fail; exact Ext.refl _)
  -- 29: slot 6 := Op.assign t58
  apply rely_const; case h => (intro wr hR a h58 K hK; go_wp2_with fail; exact Ext.refl _)
  refine rely_end ?_
  intro wr hR
  simp only [ends, Act.put, List.setIfInBounds_toArray, List.set_cons_zero, List.set_cons_succ]

  go_wp2_with fail
  go_ret
  exact ⟨rfl, hR.undrew.after SB.out SB.out.size⟩

end Go.Proofs.Ythemincohmgihaa.Crc
