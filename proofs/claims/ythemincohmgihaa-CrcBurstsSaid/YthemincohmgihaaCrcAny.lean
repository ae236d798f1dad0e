/- The law CrcAny: any bytes: whether they end with their sum. -/
import Derived.Test.YthemincohmgihaaCrcC
namespace Go.Proofs.Ythemincohmgihaa.Crc
open Go.RowKit Go.Proofs.Ythemincohmgihaa.Own Go.Proofs.Ythemincohmgihaa.Rely

theorem str_app (a b : List Int) : strOfNums a ++ strOfNums b = strOfNums (a ++ b) := by
  apply ByteArray.ext
  simp [strOfNums]

theorem right_str {xs Y : List Int} {k : Nat} (hb : IsBytes xs) (hk : xs.length = k + 4) (hY : xs.take k ++ wd (sum (xs.take k)).toNat = Y) : ((strOfNums xs).toList == (strOfNums Y).toList) = rightB xs := by
  have hYb : IsBytes Y := by
    rw [← hY]
    intro x hx
    rcases List.mem_append.1 hx with hx | hx
    · exact take_bytes hb k x hx
    · exact wd_bytes _ x hx
  unfold rightB
  rw [show xs.length - 4 = k by omega]
  by_cases h : xs.drop k = wd (sum (xs.take k)).toNat
  · rw [decide_eq_true ⟨by omega, h⟩]
    exact str_eq (by rw [← hY, ← h, List.take_append_drop])
  · rw [decide_eq_false (fun q => h q.2)]
    refine str_ne hb hYb (fun q => h ?_)
    have h3 : xs.take k ++ xs.drop k = xs.take k ++ wd (sum (xs.take k)).toNat := (List.take_append_drop k xs).trans (q.trans hY.symm)
    exact List.append_cancel_left h3

set_option maxHeartbeats 2000000 in
set_option maxRecDepth 20000 in
theorem any_wf (A : Option Addr) (c : Nat) (xs : List Int) (w : World) (h : ArgI w .u8 A c xs) :
    Calls Try.prog 8 #[.slice A xs.length c] w fun e w' => e = .returned (.bool true) ∧ Below w.heap.size w w' := by
  have HR := Lib.hid h.reads
  have HB := Lib.hid (show IsBytes xs from fun x hx => wf_u8 (h.rng x hx))
  have hc := h.le
  have hcm := h.cap
  simp only [maxLen] at hcm
  clear h
  by_cases h2 : 200 < xs.length
  · go_enter Try.func8, Try.ntmps8
    go_wp2_with fail
    refine (awake_calls w).mono ?_
    rintro e w1 ⟨rfl, hb1⟩
    go_wp2_with fail
    go_ret
    exact ⟨rfl, hb1⟩
  by_cases h4 : 4 ≤ xs.length
  · obtain ⟨k, hk⟩ : ∃ k, xs.length = k + 4 := ⟨xs.length - 4, by omega⟩
    have htl : (xs.take k).length = k := by simp; omega
    have HTL := Lib.hid htl
    have HK := Lib.hid hk
    clear htl
    go_enter Try.func8, Try.ntmps8
    go_wp2_with fail
    refine (awake_calls w).mono ?_
    rintro e w1 ⟨rfl, hb1⟩
    have HR1 := Lib.hid (HR.out.later hb1)
    obtain ⟨Y, hY⟩ : ∃ Y, xs.take k ++ wd (sum (xs.take k)).toNat = Y := ⟨_, rfl⟩
    have HY := Lib.hid hY
    clear hY
    have hsum : (xs.length : Int) - 4 = k := by omega
    have HE := Lib.hid (right_str (k := k) HB.out HK.out HY.out)
    clear hk
    go_wp2_with fail
    refine wp_region_rely (by kernel_rfl) Ext Ext.refl Ext.trans [[(0, none)], [(13, some 0)], [(0, none)], [(0, none)], [(16, some 3)], [(17, some 4)], [(15, some 2), (18, some 5)], [(19, some 6)], [(14, some 1), (20, some 7)], [(21, some 8)]] [some 13, some 14, some 15, some 16, some 17, some 18, some 19, some 20, some 21, some 3] (by kernel_rfl) (by kernel_rfl) ?_
    -- 0: slot 13 := Op.move t0
    apply rely_const; case h => (intro wr hR a h0 K hK; go_wp2_with fail; exact Ext.refl _)
    -- 1: slot 14 := Op.convert 34 9 t13
    apply rely_const
    case h =>
      intro wr hR a h13 K hK
      have hcv := (hR.undrew.reads HR1.out).string (P := Try.prog) Try.underlying34 Try.underlying5 Try.underlying9 c
      go_wp2_with fail
      exact Ext.refl _
    -- 2: slot 15 := Op.move t0
    apply rely_const; case h => (intro wr hR a h0 K hK; go_wp2_with fail; exact Ext.refl _)
    -- 3: slot 16 := Op.move t0
    apply rely_const; case h => (intro wr hR a h0 K hK; go_wp2_with fail; exact Ext.refl _)
    -- 4: slot 17 := Op.call { builtin len, args := #[t16], argTypes := #[34] }
    apply rely_const; case h => (intro wr hR a h16 K hK; go_wp2_with fail; exact Ext.refl _)
    -- 5: slot 18 := Op.binOp BinOp.sub 3 t17 (const (4:i64)) 3
    apply rely_const; case h => (intro wr hR a h17 K hK; go_wp2_with fail; exact Ext.refl _)
    -- 6: slot 19 := Op.slice 34 t15 none (some t18) none
    apply rely_const; case h => (intro wr hR a h15 h18 K hK; go_wp2_with fail; exact Ext.refl _)
    -- 7: slot 20 := Op.call { value (Operand.func 24), args := #[t19], argTypes := #[34] }
    apply rely_const
    case h =>
      intro wr hR a h19 K hK
      have hs := summed_calls wr A c (xs.take k) ((hR.undrew.reads HR1.out).take k) (take_bytes HB.out k) (by rw [HTL.out]; omega)
      rw [HTL.out, str_app, HY.out] at hs
      go_wp2_with fail
      refine (hs).mono ?_
      rintro e w2 ⟨rfl, hb⟩
      go_wp2_with fail
      exact hb
    -- 8: slot 21 := Op.binOp BinOp.eql 9 t14 t20 9
    apply rely_const; case h => (intro wr hR a h14 h20 K hK; have hE := HE.out; go_wp2_with fail; exact Ext.refl _)
    -- 9: slot 3 := Op.assign t21
    apply rely_const; case h => (intro wr hR a h21 K hK; go_wp2_with fail; exact Ext.refl _)
    refine rely_end ?_
    intro wr hR
    simp only [ends, Act.put, List.setIfInBounds_toArray, List.set_cons_zero, List.set_cons_succ]

    have hs := right_calls wr A c xs (hR.undrew.reads HR1.out) HB.out (by omega) hc
    go_wp2_with fail
    refine hs.mono ?_
    rintro e w2 ⟨rfl, hb2⟩
    go_wp2_with fail
    go_ret
    exact ⟨rfl, (Ext.trans _ _ _ hR.undrew hb2).after hb1 hb1.size⟩
  · have hf : rightB xs = false := by unfold rightB; rw [decide_eq_false]; omega
    go_enter Try.func8, Try.ntmps8
    go_wp2_with fail
    refine (awake_calls w).mono ?_
    rintro e w1 ⟨rfl, hb1⟩
    have hs := right_calls w1 A c xs (HR.out.later hb1) HB.out (by omega) hc
    rw [hf] at hs
    go_wp2_with fail
    refine hs.mono ?_
    rintro e w2 ⟨rfl, hb2⟩
    go_wp2_with fail
    go_ret
    exact ⟨by rw [decide_eq_false (show ¬ (4 : Int) ≤ (xs.length : Int) by omega)]; rfl, Ext.after (show Ext w1 w2 from hb2) hb1 hb1.size⟩

end Go.Proofs.Ythemincohmgihaa.Crc
