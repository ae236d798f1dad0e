/- The law WireErrors, at every input. -/
import Derived.Test.YtpgnlpcnancplaaWireErr
namespace Go.Proofs.Ytpgnlpcnancplaa.Wire
open Go.RowKit Go.Proofs.Ytpgnlpcnancplaa.Own Go.Proofs.Ytpgnlpcnancplaa.Rely
attribute [local go_sem] max_ints min_ints

/-- A reader, somewhere, with this error. -/
def Told (p : Nat) (e : Int) (w : World) : Prop := ∃ A c X at_ T, Rd p A c X ⟨at_, e⟩ w T
theorem Told.ext {p : Nat} {e : Int} {w w' : World} (h : Told p e w) (x : Ext w w') : Told p e w' := by
  obtain ⟨A, c, X, a, T, h⟩ := h
  exact ⟨A, c, X, a, T, Ext.keep (loc_rd _ _ _ _ _) x h⟩
theorem told_err {p : Nat} {e : Int} {w : World} (h : Told p e w) : Calls Try.prog 42 #[.pointer (some ⟨p, 0, none⟩)] w fun r w' => r = .returned (.int .i64 e) ∧ Ext w w' := by
  obtain ⟨A, c, X, a, T, h⟩ := h
  refine (err_is p A c X ⟨a, e⟩ w T h).mono ?_
  rintro r w' ⟨rfl, rfl⟩
  exact ⟨rfl, Ext.refl _⟩
theorem told_end {p : Nat} {w : World} (h : Told p 5 w) : Calls Try.prog 33 #[.pointer (some ⟨p, 0, none⟩)] w fun r w' => r = .returned (.int .i64 5) ∧ Ext w w' := by
  obtain ⟨A, c, X, a, T, h⟩ := h
  refine (end_is p A c X ⟨a, 5⟩ w T h).mono ?_
  rintro r w' ⟨rfl, n, rfl⟩
  have : rend X ⟨a, 5⟩ = 5 := by unfold rend; simp
  rw [this]
  exact ⟨rfl, ext_drewN _ _⟩
theorem told_left {p : Nat} {w : World} (h : Told p 5 w) : Calls Try.prog 35 #[.pointer (some ⟨p, 0, none⟩)] w fun r w' => r = .returned (.int .i64 0) ∧ Ext w w' := by
  obtain ⟨A, c, X, a, T, h⟩ := h
  refine (left_is p A c X ⟨a, 5⟩ w T h).mono ?_
  rintro r w' ⟨rfl, n, rfl⟩
  have : rleft X ⟨a, 5⟩ = 0 := by unfold rleft; simp
  rw [this]
  exact ⟨rfl, ext_drewN _ _⟩
theorem ext_F {S1 : Nat → Prop} {w w' : World} (h : Step (fun _ => False) S1 w w') : Ext w w' := belowF h

set_option maxHeartbeats 8000000 in
set_option maxRecDepth 20000 in
theorem errors_wf (n : Int) (A : Option Addr) (c : Nat) (xs : List Int) (w : World) (hn : (Lit.int .u64 n).wf = true) (h : ArgI w .u8 A c xs) :
    Calls Try.prog 10 #[.int .u64 n, .slice A xs.length c] w fun e w' => e = .returned (.bool true) ∧ Below w.heap.size w w' := by
  have HA := Lib.hid h
  have hn' : (decide (0 ≤ n) && decide (n ≤ 18446744073709551615)) = true := hn
  simp only [Bool.and_eq_true, decide_eq_true_eq] at hn'
  obtain ⟨n, rfl⟩ := Int.eq_ofNat_of_zero_le hn'.1
  have hnb : U64 n := by show n < 18446744073709551616; omega
  have HN := Lib.hid hnb
  have hnn : n ≤ 18446744073709551615 := by omega
  have hem : Emp w (fun _ => False) := fun _ x => x
  have HE := Lib.hid hem
  clear h hem hn hn' hnb
  go_enter Try.func10, Try.ntmps10
  go_wp2_with fail
  refine (awake_tri _ _ HE.out).mono ?_
  rintro e w1 ⟨S1, ⟨rfl, h1⟩, st1⟩
  have ST1 := Lib.hid (show Step (fun _ => False) (fun _ => False) w w1 from ⟨st1.keep, fun _ x => x.elim⟩)
  clear h1 st1
  by_cases hl50 : 50 < xs.length
  · go_wp2_with fail
    go_ret
    exact ⟨rfl, belowF ST1.out⟩
  have hl : xs.length ≤ 50 := by omega
  have n1 := new_writer Lcl.emp (w := w1) (S := fun _ => False) (fun _ x => x)
  have H2 := Lib.hid (Sep.left_of_emp n1.1)
  have ST2 := Lib.hid n1.2
  clear n1
  go_wp2_with fail
  generalize w1.alloc (.cells #[.slice none 0 0] 28) = w2 at H2 ST2 ⊢
  generalize w1.heap.size = p1 at H2 ST2 ⊢
  refine (uint_tri p1 [] n (by simp) HN.out _ _ H2.out).mono ?_
  rintro e w3 ⟨S3, ⟨rfl, h3⟩, st3⟩
  rw [List.nil_append] at h3
  have hel := enc_ten HN.out
  have H3 := Lib.hid h3
  have ST3 := Lib.hid (ST2.out.trans st3)
  clear h3 st3 H2 ST2
  go_wp2_with fail
  refine (bytes_tri p1 (enc n) (by omega) _ _ H3.out).mono ?_
  rintro e w4 ⟨S4, hs4, st4⟩
  obtain ⟨v4, rfl, h4⟩ := hs4
  obtain ⟨T4, hT4, hsT4⟩ := h4.left
  obtain ⟨A4, c4, rfl, hc4, hm4⟩ := hT4.shape
  have H4 := Lib.hid (Sep.emp_left hT4)
  have ST4 := Lib.hid ((ST3.out.trans st4).less hsT4)
  have HC4 := Lib.hid (And.intro hc4 hm4)
  clear h4 st4 hT4 hsT4 H3 ST3 hm4 hc4
  go_wp2_with fail
  have hm := HC4.out.2
  refine (((read_tri A4 c4 (enc n) HC4.out.1 (by unfold maxLen at hm; omega)).frame (Lcl.row _ _ _ _)) _ _ H4.out).mono ?_
  rintro e w5 ⟨S5, hs5, st5⟩
  obtain ⟨r1, hf5⟩ := Sep.some hs5
  obtain ⟨rfl, h5⟩ := Sep.fact hf5
  have H5 := Lib.hid h5
  have ST5 := Lib.hid (ST4.out.trans st5)
  clear hs5 hf5 h5 st5 H4 ST4 hm
  have HRD : RowKit.Hid (∀ w S, Row 5 .u8 (.slice A4 (enc n).length c4) (enc n) w S → Reads w .u8 A4 (enc n)) := Lib.hid (by
    rintro w S h
    obtain ⟨_, _, e, _, hr, _⟩ := h.reads
    injection e with e1 _ e2
    subst e1 e2
    exact hr)
  have XW1 := Lib.hid (ext_F ST1.out)
  by_cases hz : n = 0
  · subst hz
    have X6 := Lib.hid (Ext.trans _ _ _ XW1.out (ext_F ST5.out))
    clear H5 ST5 HRD XW1 ST1
    obtain ⟨w6, hw6⟩ : ∃ w6, w6 = w5 := ⟨_, rfl⟩
    subst hw6
    go_wp2_with fail
    have lit2 := Row.lit 5 .u8 [128, 0] w6 (by decide)
    have LT2 := Lib.hid (show Sep Emp (Row 5 .u8 (.slice (some ⟨w6.heap.size, 0, none⟩) 2 2) [128, 0]) (w6.alloc (.cells #[.int .u8 128, .int .u8 0] 5 (0, 0))) _ from Sep.emp_left lit2)
    have LS2 : RowKit.Hid (Step (fun _ => False) (fun b => b = w6.heap.size) w6 (w6.alloc (.cells #[.int .u8 128, .int .u8 0] 5 (0, 0)))) := Lib.hid ⟨(Keep.refl _ _).alloc _, fun k hk => .inr (by omega)⟩
    clear lit2
    refine (((read_tri (some ⟨w6.heap.size, 0, none⟩) 2 [128, 0] (by decide) (by decide)).frame (Lcl.row _ _ _ _)) _ _ LT2.out).mono ?_
    rintro e w7 ⟨S7, hs7, st7⟩
    obtain ⟨r2, hf7⟩ := Sep.some hs7
    obtain ⟨rfl, h7⟩ := Sep.fact hf7
    have H7 := Lib.hid h7
    have ST7 := Lib.hid (LS2.out.trans st7)
    have FR2 := Lib.hid (uint_fr r2 (some ⟨w6.heap.size, 0, none⟩) 2 [128, 0] ⟨0, 0⟩ 9 (Row 5 .u8 (.slice (some ⟨w6.heap.size, 0, none⟩) 2 2) [128, 0]) (Lcl.row _ _ _ _) (fun w S h => by
      obtain ⟨_, _, e, _, hr, _⟩ := h.reads
      injection e with e1 _ e2
      subst e1 e2
      exact hr) (by intro x hx; simp at hx; omega))
    clear hs7 hf7 h7 st7 LT2 LS2
    go_wp2_with fail
    refine (FR2.out _ _ H7.out).mono ?_
    rintro e w8 ⟨S8, ⟨rfl, h8⟩, st8⟩
    have hx8 := ext_F (ST7.out.trans st8)
    obtain ⟨T8, hT8, _⟩ := h8.left
    have hle8 := long_err
    have TD2 := Lib.hid (show Told r2 4 w8 from ⟨_, _, _, _, T8, by rw [← hle8]; exact hT8⟩)
    have X8 := Lib.hid (Ext.trans _ _ _ X6.out hx8)
    clear hx8 h8 st8 hT8 H7 ST7 FR2 hle8 X6
    go_wp2_with fail
    have lit3 := Row.lit 5 .u8 [255, 255, 255, 255, 255, 255, 255, 255, 255, 2] w8 (by decide)
    have LT3 := Lib.hid (show Sep Emp (Row 5 .u8 (.slice (some ⟨w8.heap.size, 0, none⟩) 10 10) [255, 255, 255, 255, 255, 255, 255, 255, 255, 2]) (w8.alloc (.cells #[.int .u8 255, .int .u8 255, .int .u8 255, .int .u8 255, .int .u8 255, .int .u8 255, .int .u8 255, .int .u8 255, .int .u8 255, .int .u8 2] 5 (0, 0))) _ from Sep.emp_left lit3)
    have LS3 : RowKit.Hid (Step (fun _ => False) (fun b => b = w8.heap.size) w8 (w8.alloc (.cells #[.int .u8 255, .int .u8 255, .int .u8 255, .int .u8 255, .int .u8 255, .int .u8 255, .int .u8 255, .int .u8 255, .int .u8 255, .int .u8 2] 5 (0, 0)))) := Lib.hid ⟨(Keep.refl _ _).alloc _, fun k hk => .inr (by omega)⟩
    clear lit3
    refine (((read_tri (some ⟨w8.heap.size, 0, none⟩) 10 [255, 255, 255, 255, 255, 255, 255, 255, 255, 2] (by decide) (by decide)).frame (Lcl.row _ _ _ _)) _ _ LT3.out).mono ?_
    rintro e w9 ⟨S9, hs9, st9⟩
    obtain ⟨r3, hf9⟩ := Sep.some hs9
    obtain ⟨rfl, h9⟩ := Sep.fact hf9
    have H9 := Lib.hid h9
    have ST9 := Lib.hid (LS3.out.trans st9)
    have FR3 := Lib.hid (uint_fr r3 (some ⟨w8.heap.size, 0, none⟩) 10 [255, 255, 255, 255, 255, 255, 255, 255, 255, 2] ⟨0, 0⟩ 18446744073709551615 (Row 5 .u8 (.slice (some ⟨w8.heap.size, 0, none⟩) 10 10) [255, 255, 255, 255, 255, 255, 255, 255, 255, 2]) (Lcl.row _ _ _ _) (fun w S h => by
      obtain ⟨_, _, e, _, hr, _⟩ := h.reads
      injection e with e1 _ e2
      subst e1 e2
      exact hr) (by intro x hx; simp at hx; omega))
    clear hs9 hf9 h9 st9 LT3 LS3
    go_wp2_with fail
    refine (FR3.out _ _ H9.out).mono ?_
    rintro e w10 ⟨S10, ⟨rfl, h10⟩, st10⟩
    have hx10 := ext_F (ST9.out.trans st10)
    obtain ⟨T10, hT10, _⟩ := h10.left
    have hle10 := far_err
    have TD3 := Lib.hid (show Told r3 4 w10 from ⟨_, _, _, _, T10, by rw [← hle10]; exact hT10⟩)
    have TDn2 := Lib.hid (TD2.out.ext hx10)
    clear TD2
    have TD2 := TDn2
    clear TDn2
    have X10 := Lib.hid (Ext.trans _ _ _ X8.out hx10)
    clear hx10 h10 st10 hT10 H9 ST9 FR3 hle10 X8
    go_wp2_with fail
    refine (read_tri A c xs HA.out.le (by have := HA.out.cap; unfold maxLen at this; omega) _ _ (show Emp w10 (fun _ => False) from fun _ x => x)).mono ?_
    rintro e w11 ⟨S11, hs11, st11⟩
    obtain ⟨r4, rfl, h11⟩ := hs11
    have H11 := Lib.hid h11
    have ST11 := Lib.hid st11
    have BN := Lib.hid (bytes_no r4 A c xs ⟨0, 0⟩ ((xs.length : Int) + 1) w11 S11 h11 (.inr (by unfold rleft; simp <;> omega)) (by omega))
    clear h11 st11
    go_wp2_with fail
    refine (BN.out).mono ?_
    rintro e w12 ⟨S12, ⟨rfl, h12⟩, st12⟩
    have hx12 := ext_F (ST11.out.trans st12)
    have TD4 := Lib.hid (show Told r4 3 w12 from ⟨_, _, _, _, S12, h12⟩)
    have TDn2 := Lib.hid (TD2.out.ext hx12)
    clear TD2
    have TD2 := TDn2
    clear TDn2
    have TDn3 := Lib.hid (TD3.out.ext hx12)
    clear TD3
    have TD3 := TDn3
    clear TDn3
    have X12 := Lib.hid (Ext.trans _ _ _ X10.out hx12)
    clear hx12 h12 st12 H11 ST11 BN X10
    go_wp2_with fail
    refine (read_tri A c xs HA.out.le (by have := HA.out.cap; unfold maxLen at this; omega) _ _ (show Emp w12 (fun _ => False) from fun _ x => x)).mono ?_
    rintro e w13 ⟨S13, hs13, st13⟩
    obtain ⟨r5, rfl, h13⟩ := hs13
    have H13 := Lib.hid h13
    have ST13 := Lib.hid st13
    clear h13 st13
    go_wp2_with fail
    refine (fail_tri r5 A c xs ⟨0, 0⟩ 5 (by omega) (by omega) _ _ H13.out).mono ?_
    rintro e w14 ⟨S14, ⟨rfl, h14⟩, st14⟩
    have H14 := Lib.hid (show Rd r5 A c xs ⟨0, 5⟩ w14 S14 from h14)
    have ST14 := Lib.hid (ST13.out.trans st14)
    clear h14 st14
    go_wp2_with fail
    refine (fail_tri r5 A c xs ⟨0, 5⟩ 4 (by omega) (by omega) _ _ H14.out).mono ?_
    rintro e w15 ⟨S15, ⟨rfl, h15⟩, st15⟩
    have hx15 := ext_F (ST14.out.trans st15)
    have TD5 := Lib.hid (show Told r5 5 w15 from ⟨A, c, xs, 0, S15, h15⟩)
    have TDn2 := Lib.hid (TD2.out.ext hx15)
    clear TD2
    have TD2 := TDn2
    clear TDn2
    have TDn3 := Lib.hid (TD3.out.ext hx15)
    clear TD3
    have TD3 := TDn3
    clear TDn3
    have TDn4 := Lib.hid (TD4.out.ext hx15)
    clear TD4
    have TD4 := TDn4
    clear TDn4
    have X15 := Lib.hid (Ext.trans _ _ _ X12.out hx15)
    clear hx15 h15 st15 H13 ST13 H14 ST14 X12
    go_wp2_with fail
    refine (nil_wint3 _).mono ?_
    rintro e w16 ⟨rfl, hx⟩
    have TDn2 := Lib.hid (TD2.out.ext hx)
    clear TD2
    have TD2 := TDn2
    clear TDn2
    have TDn3 := Lib.hid (TD3.out.ext hx)
    clear TD3
    have TD3 := TDn3
    clear TDn3
    have TDn4 := Lib.hid (TD4.out.ext hx)
    clear TD4
    have TD4 := TDn4
    clear TDn4
    have TDn5 := Lib.hid (TD5.out.ext hx)
    clear TD5
    have TD5 := TDn5
    clear TDn5
    have X16 := Lib.hid (Ext.trans _ _ _ X15.out hx)
    clear X15 hx
    go_wp2_with fail
    refine (nil_wuint3 _).mono ?_
    rintro e w17 ⟨rfl, hx⟩
    have TDn2 := Lib.hid (TD2.out.ext hx)
    clear TD2
    have TD2 := TDn2
    clear TDn2
    have TDn3 := Lib.hid (TD3.out.ext hx)
    clear TD3
    have TD3 := TDn3
    clear TDn3
    have TDn4 := Lib.hid (TD4.out.ext hx)
    clear TD4
    have TD4 := TDn4
    clear TDn4
    have TDn5 := Lib.hid (TD5.out.ext hx)
    clear TD5
    have TD5 := TDn5
    clear TDn5
    have X17 := Lib.hid (Ext.trans _ _ _ X16.out hx)
    clear X16 hx
    go_wp2_with fail
    refine (nil_wword3 _).mono ?_
    rintro e w18 ⟨rfl, hx⟩
    have TDn2 := Lib.hid (TD2.out.ext hx)
    clear TD2
    have TD2 := TDn2
    clear TDn2
    have TDn3 := Lib.hid (TD3.out.ext hx)
    clear TD3
    have TD3 := TDn3
    clear TDn3
    have TDn4 := Lib.hid (TD4.out.ext hx)
    clear TD4
    have TD4 := TDn4
    clear TDn4
    have TDn5 := Lib.hid (TD5.out.ext hx)
    clear TD5
    have TD5 := TDn5
    clear TDn5
    have X18 := Lib.hid (Ext.trans _ _ _ X17.out hx)
    clear X17 hx
    go_wp2_with fail
    refine (nil_wput _ _).mono ?_
    rintro e w19 ⟨rfl, nq19, hq⟩
    have hx : Ext w18 w19 := by rw [hq]; exact ext_drewN _ _
    clear hq
    have TDn2 := Lib.hid (TD2.out.ext hx)
    clear TD2
    have TD2 := TDn2
    clear TDn2
    have TDn3 := Lib.hid (TD3.out.ext hx)
    clear TD3
    have TD3 := TDn3
    clear TDn3
    have TDn4 := Lib.hid (TD4.out.ext hx)
    clear TD4
    have TD4 := TDn4
    clear TDn4
    have TDn5 := Lib.hid (TD5.out.ext hx)
    clear TD5
    have TD5 := TDn5
    clear TDn5
    have X19 := Lib.hid (Ext.trans _ _ _ X18.out hx)
    clear X18 hx
    go_wp2_with fail
    refine (nil_rfail 4 _).mono ?_
    rintro e w20 ⟨rfl, nq20, hq⟩
    have hx : Ext w19 w20 := by rw [hq]; exact ext_drewN _ _
    clear hq
    have TDn2 := Lib.hid (TD2.out.ext hx)
    clear TD2
    have TD2 := TDn2
    clear TDn2
    have TDn3 := Lib.hid (TD3.out.ext hx)
    clear TD3
    have TD3 := TDn3
    clear TDn3
    have TDn4 := Lib.hid (TD4.out.ext hx)
    clear TD4
    have TD4 := TDn4
    clear TDn4
    have TDn5 := Lib.hid (TD5.out.ext hx)
    clear TD5
    have TD5 := TDn5
    clear TDn5
    have X20 := Lib.hid (Ext.trans _ _ _ X19.out hx)
    clear X19 hx
    go_wp2_with fail
    refine (told_err TD2.out).mono ?_
    rintro e w21 ⟨rfl, hx⟩
    have TDn2 := Lib.hid (TD2.out.ext hx)
    clear TD2
    have TD2 := TDn2
    clear TDn2
    have TDn3 := Lib.hid (TD3.out.ext hx)
    clear TD3
    have TD3 := TDn3
    clear TDn3
    have TDn4 := Lib.hid (TD4.out.ext hx)
    clear TD4
    have TD4 := TDn4
    clear TDn4
    have TDn5 := Lib.hid (TD5.out.ext hx)
    clear TD5
    have TD5 := TDn5
    clear TDn5
    have X21 := Lib.hid (Ext.trans _ _ _ X20.out hx)
    clear X20 hx
    go_wp2_with fail
    refine (told_err TD3.out).mono ?_
    rintro e w22 ⟨rfl, hx⟩
    have TDn2 := Lib.hid (TD2.out.ext hx)
    clear TD2
    have TD2 := TDn2
    clear TDn2
    have TDn3 := Lib.hid (TD3.out.ext hx)
    clear TD3
    have TD3 := TDn3
    clear TDn3
    have TDn4 := Lib.hid (TD4.out.ext hx)
    clear TD4
    have TD4 := TDn4
    clear TDn4
    have TDn5 := Lib.hid (TD5.out.ext hx)
    clear TD5
    have TD5 := TDn5
    clear TDn5
    have X22 := Lib.hid (Ext.trans _ _ _ X21.out hx)
    clear X21 hx
    go_wp2_with fail
    refine (told_err TD4.out).mono ?_
    rintro e w23 ⟨rfl, hx⟩
    have TDn2 := Lib.hid (TD2.out.ext hx)
    clear TD2
    have TD2 := TDn2
    clear TDn2
    have TDn3 := Lib.hid (TD3.out.ext hx)
    clear TD3
    have TD3 := TDn3
    clear TDn3
    have TDn4 := Lib.hid (TD4.out.ext hx)
    clear TD4
    have TD4 := TDn4
    clear TDn4
    have TDn5 := Lib.hid (TD5.out.ext hx)
    clear TD5
    have TD5 := TDn5
    clear TDn5
    have X23 := Lib.hid (Ext.trans _ _ _ X22.out hx)
    clear X22 hx
    go_wp2_with fail
    refine (told_err TD5.out).mono ?_
    rintro e w24 ⟨rfl, hx⟩
    have TDn2 := Lib.hid (TD2.out.ext hx)
    clear TD2
    have TD2 := TDn2
    clear TDn2
    have TDn3 := Lib.hid (TD3.out.ext hx)
    clear TD3
    have TD3 := TDn3
    clear TDn3
    have TDn4 := Lib.hid (TD4.out.ext hx)
    clear TD4
    have TD4 := TDn4
    clear TDn4
    have TDn5 := Lib.hid (TD5.out.ext hx)
    clear TD5
    have TD5 := TDn5
    clear TDn5
    have X24 := Lib.hid (Ext.trans _ _ _ X23.out hx)
    clear X23 hx
    go_wp2_with fail
    refine (told_end TD5.out).mono ?_
    rintro e w25 ⟨rfl, hx⟩
    have TDn2 := Lib.hid (TD2.out.ext hx)
    clear TD2
    have TD2 := TDn2
    clear TDn2
    have TDn3 := Lib.hid (TD3.out.ext hx)
    clear TD3
    have TD3 := TDn3
    clear TDn3
    have TDn4 := Lib.hid (TD4.out.ext hx)
    clear TD4
    have TD4 := TDn4
    clear TDn4
    have TDn5 := Lib.hid (TD5.out.ext hx)
    clear TD5
    have TD5 := TDn5
    clear TDn5
    have X25 := Lib.hid (Ext.trans _ _ _ X24.out hx)
    clear X24 hx
    go_wp2_with fail
    refine (told_left TD5.out).mono ?_
    rintro e w26 ⟨rfl, hx⟩
    have TDn2 := Lib.hid (TD2.out.ext hx)
    clear TD2
    have TD2 := TDn2
    clear TDn2
    have TDn3 := Lib.hid (TD3.out.ext hx)
    clear TD3
    have TD3 := TDn3
    clear TDn3
    have TDn4 := Lib.hid (TD4.out.ext hx)
    clear TD4
    have TD4 := TDn4
    clear TDn4
    have TDn5 := Lib.hid (TD5.out.ext hx)
    clear TD5
    have TD5 := TDn5
    clear TDn5
    have X26 := Lib.hid (Ext.trans _ _ _ X25.out hx)
    clear X25 hx
    go_wp2_with fail
    refine (nil_rerr _).mono ?_
    rintro e w27 ⟨rfl, nq27, hq⟩
    have hx : Ext w26 w27 := by rw [hq]; exact ext_drewN _ _
    clear hq
    have TDn2 := Lib.hid (TD2.out.ext hx)
    clear TD2
    have TD2 := TDn2
    clear TDn2
    have TDn3 := Lib.hid (TD3.out.ext hx)
    clear TD3
    have TD3 := TDn3
    clear TDn3
    have TDn4 := Lib.hid (TD4.out.ext hx)
    clear TD4
    have TD4 := TDn4
    clear TDn4
    have TDn5 := Lib.hid (TD5.out.ext hx)
    clear TD5
    have TD5 := TDn5
    clear TDn5
    have X27 := Lib.hid (Ext.trans _ _ _ X26.out hx)
    clear X26 hx
    go_wp2_with fail
    refine (nil_rint _).mono ?_
    rintro e w28 ⟨rfl, hx⟩
    have TDn2 := Lib.hid (TD2.out.ext hx)
    clear TD2
    have TD2 := TDn2
    clear TDn2
    have TDn3 := Lib.hid (TD3.out.ext hx)
    clear TD3
    have TD3 := TDn3
    clear TDn3
    have TDn4 := Lib.hid (TD4.out.ext hx)
    clear TD4
    have TD4 := TDn4
    clear TDn4
    have TDn5 := Lib.hid (TD5.out.ext hx)
    clear TD5
    have TD5 := TDn5
    clear TDn5
    have X28 := Lib.hid (Ext.trans _ _ _ X27.out hx)
    clear X27 hx
    go_wp2_with fail
    refine (nil_rword _).mono ?_
    rintro e w29 ⟨rfl, hx⟩
    have TDn2 := Lib.hid (TD2.out.ext hx)
    clear TD2
    have TD2 := TDn2
    clear TDn2
    have TDn3 := Lib.hid (TD3.out.ext hx)
    clear TD3
    have TD3 := TDn3
    clear TDn3
    have TDn4 := Lib.hid (TD4.out.ext hx)
    clear TD4
    have TD4 := TDn4
    clear TDn4
    have TDn5 := Lib.hid (TD5.out.ext hx)
    clear TD5
    have TD5 := TDn5
    clear TDn5
    have X29 := Lib.hid (Ext.trans _ _ _ X28.out hx)
    clear X28 hx
    go_wp2_with fail
    refine (nil_rend _).mono ?_
    rintro e w30 ⟨rfl, nq30, hq⟩
    have hx : Ext w29 w30 := by rw [hq]; exact ext_drewN _ _
    clear hq
    have TDn2 := Lib.hid (TD2.out.ext hx)
    clear TD2
    have TD2 := TDn2
    clear TDn2
    have TDn3 := Lib.hid (TD3.out.ext hx)
    clear TD3
    have TD3 := TDn3
    clear TDn3
    have TDn4 := Lib.hid (TD4.out.ext hx)
    clear TD4
    have TD4 := TDn4
    clear TDn4
    have TDn5 := Lib.hid (TD5.out.ext hx)
    clear TD5
    have TD5 := TDn5
    clear TDn5
    have X30 := Lib.hid (Ext.trans _ _ _ X29.out hx)
    clear X29 hx
    go_wp2_with fail
    refine (nil_rat _).mono ?_
    rintro e w31 ⟨rfl, nq31, hq⟩
    have hx : Ext w30 w31 := by rw [hq]; exact ext_drewN _ _
    clear hq
    have TDn2 := Lib.hid (TD2.out.ext hx)
    clear TD2
    have TD2 := TDn2
    clear TDn2
    have TDn3 := Lib.hid (TD3.out.ext hx)
    clear TD3
    have TD3 := TDn3
    clear TDn3
    have TDn4 := Lib.hid (TD4.out.ext hx)
    clear TD4
    have TD4 := TDn4
    clear TDn4
    have TDn5 := Lib.hid (TD5.out.ext hx)
    clear TD5
    have TD5 := TDn5
    clear TDn5
    have X31 := Lib.hid (Ext.trans _ _ _ X30.out hx)
    clear X30 hx
    go_wp2_with fail
    refine (nil_rleft _).mono ?_
    rintro e w32 ⟨rfl, nq32, hq⟩
    have hx : Ext w31 w32 := by rw [hq]; exact ext_drewN _ _
    clear hq
    have TDn2 := Lib.hid (TD2.out.ext hx)
    clear TD2
    have TD2 := TDn2
    clear TDn2
    have TDn3 := Lib.hid (TD3.out.ext hx)
    clear TD3
    have TD3 := TDn3
    clear TDn3
    have TDn4 := Lib.hid (TD4.out.ext hx)
    clear TD4
    have TD4 := TDn4
    clear TDn4
    have TDn5 := Lib.hid (TD5.out.ext hx)
    clear TD5
    have TD5 := TDn5
    clear TDn5
    have X32 := Lib.hid (Ext.trans _ _ _ X31.out hx)
    clear X31 hx
    go_wp2_with fail
    refine (nil_rbytes1 _).mono ?_
    rintro e w33 ⟨rfl, hx⟩
    have TDn2 := Lib.hid (TD2.out.ext hx)
    clear TD2
    have TD2 := TDn2
    clear TDn2
    have TDn3 := Lib.hid (TD3.out.ext hx)
    clear TD3
    have TD3 := TDn3
    clear TDn3
    have TDn4 := Lib.hid (TD4.out.ext hx)
    clear TD4
    have TD4 := TDn4
    clear TDn4
    have TDn5 := Lib.hid (TD5.out.ext hx)
    clear TD5
    have TD5 := TDn5
    clear TDn5
    have X33 := Lib.hid (Ext.trans _ _ _ X32.out hx)
    clear X32 hx
    go_wp2_with fail
    refine (nil_wlen _).mono ?_
    rintro e w34 ⟨rfl, nq34, hq⟩
    have hx : Ext w33 w34 := by rw [hq]; exact ext_drewN _ _
    clear hq
    have TDn2 := Lib.hid (TD2.out.ext hx)
    clear TD2
    have TD2 := TDn2
    clear TDn2
    have TDn3 := Lib.hid (TD3.out.ext hx)
    clear TD3
    have TD3 := TDn3
    clear TDn3
    have TDn4 := Lib.hid (TD4.out.ext hx)
    clear TD4
    have TD4 := TDn4
    clear TDn4
    have TDn5 := Lib.hid (TD5.out.ext hx)
    clear TD5
    have TD5 := TDn5
    clear TDn5
    have X34 := Lib.hid (Ext.trans _ _ _ X33.out hx)
    clear X33 hx
    go_wp2_with fail
    refine (nil_wbytes _).mono ?_
    rintro e w35 ⟨rfl, nq35, hq⟩
    have hx : Ext w34 w35 := by rw [hq]; exact ext_drewN _ _
    clear hq
    have TDn2 := Lib.hid (TD2.out.ext hx)
    clear TD2
    have TD2 := TDn2
    clear TDn2
    have TDn3 := Lib.hid (TD3.out.ext hx)
    clear TD3
    have TD3 := TDn3
    clear TDn3
    have TDn4 := Lib.hid (TD4.out.ext hx)
    clear TD4
    have TD4 := TDn4
    clear TDn4
    have TDn5 := Lib.hid (TD5.out.ext hx)
    clear TD5
    have TD5 := TDn5
    clear TDn5
    have X35 := Lib.hid (Ext.trans _ _ _ X34.out hx)
    clear X34 hx
    go_wp2_with fail
    go_ret
    exact ⟨rfl, X35.out⟩
  · obtain ⟨m, rfl⟩ : ∃ m, n = m + 1 := ⟨n - 1, by omega⟩
    have hg : decide ((0 : Int) < ((m + 1 : Nat) : Int)) = true := by simp <;> omega
    have hg0 : (((m + 1 : Nat) : Int) == 0) = false := by rw [beq_eq_false_iff_ne]; omega
    have hrm := rnum_many (xs := enc (m + 1)) (i := 0) (n := m + 1) (most := m) (post := []) (by simp) HN.out (by omega)
    have HU0 := uint_fr r1 A4 c4 (enc (m + 1)) ⟨0, 0⟩ m _ (Lcl.row _ _ _ _) HRD.out (enc_bytes _)
    rw [hrm] at HU0
    have HU := Lib.hid HU0
    have hm1 : ((m + 1 : Nat) : Int) - 1 = (m : Int) := by omega
    clear HU0 hrm
    go_wp2_with fail
    refine (HU.out _ _ H5.out).mono ?_
    rintro e w6 ⟨S6, ⟨rfl, h6⟩, st6⟩
    obtain ⟨T6, hT6, _⟩ := h6.left
    have TD1 := Lib.hid (show Told r1 7 w6 from ⟨_, _, _, _, T6, hT6⟩)
    have X6 := Lib.hid (Ext.trans _ _ _ XW1.out (ext_F (ST5.out.trans st6)))
    clear h6 st6 hT6 H5 ST5 HRD HU XW1 ST1
    go_wp2_with fail
    have lit2 := Row.lit 5 .u8 [128, 0] w6 (by decide)
    have LT2 := Lib.hid (show Sep Emp (Row 5 .u8 (.slice (some ⟨w6.heap.size, 0, none⟩) 2 2) [128, 0]) (w6.alloc (.cells #[.int .u8 128, .int .u8 0] 5 (0, 0))) _ from Sep.emp_left lit2)
    have LS2 : RowKit.Hid (Step (fun _ => False) (fun b => b = w6.heap.size) w6 (w6.alloc (.cells #[.int .u8 128, .int .u8 0] 5 (0, 0)))) := Lib.hid ⟨(Keep.refl _ _).alloc _, fun k hk => .inr (by omega)⟩
    clear lit2
    refine (((read_tri (some ⟨w6.heap.size, 0, none⟩) 2 [128, 0] (by decide) (by decide)).frame (Lcl.row _ _ _ _)) _ _ LT2.out).mono ?_
    rintro e w7 ⟨S7, hs7, st7⟩
    obtain ⟨r2, hf7⟩ := Sep.some hs7
    obtain ⟨rfl, h7⟩ := Sep.fact hf7
    have H7 := Lib.hid h7
    have ST7 := Lib.hid (LS2.out.trans st7)
    have FR2 := Lib.hid (uint_fr r2 (some ⟨w6.heap.size, 0, none⟩) 2 [128, 0] ⟨0, 0⟩ 9 (Row 5 .u8 (.slice (some ⟨w6.heap.size, 0, none⟩) 2 2) [128, 0]) (Lcl.row _ _ _ _) (fun w S h => by
      obtain ⟨_, _, e, _, hr, _⟩ := h.reads
      injection e with e1 _ e2
      subst e1 e2
      exact hr) (by intro x hx; simp at hx; omega))
    clear hs7 hf7 h7 st7 LT2 LS2
    go_wp2_with fail
    refine (FR2.out _ _ H7.out).mono ?_
    rintro e w8 ⟨S8, ⟨rfl, h8⟩, st8⟩
    have hx8 := ext_F (ST7.out.trans st8)
    obtain ⟨T8, hT8, _⟩ := h8.left
    have hle8 := long_err
    have TD2 := Lib.hid (show Told r2 4 w8 from ⟨_, _, _, _, T8, by rw [← hle8]; exact hT8⟩)
    have TDn1 := Lib.hid (TD1.out.ext hx8)
    clear TD1
    have TD1 := TDn1
    clear TDn1
    have X8 := Lib.hid (Ext.trans _ _ _ X6.out hx8)
    clear hx8 h8 st8 hT8 H7 ST7 FR2 hle8 X6
    go_wp2_with fail
    have lit3 := Row.lit 5 .u8 [255, 255, 255, 255, 255, 255, 255, 255, 255, 2] w8 (by decide)
    have LT3 := Lib.hid (show Sep Emp (Row 5 .u8 (.slice (some ⟨w8.heap.size, 0, none⟩) 10 10) [255, 255, 255, 255, 255, 255, 255, 255, 255, 2]) (w8.alloc (.cells #[.int .u8 255, .int .u8 255, .int .u8 255, .int .u8 255, .int .u8 255, .int .u8 255, .int .u8 255, .int .u8 255, .int .u8 255, .int .u8 2] 5 (0, 0))) _ from Sep.emp_left lit3)
    have LS3 : RowKit.Hid (Step (fun _ => False) (fun b => b = w8.heap.size) w8 (w8.alloc (.cells #[.int .u8 255, .int .u8 255, .int .u8 255, .int .u8 255, .int .u8 255, .int .u8 255, .int .u8 255, .int .u8 255, .int .u8 255, .int .u8 2] 5 (0, 0)))) := Lib.hid ⟨(Keep.refl _ _).alloc _, fun k hk => .inr (by omega)⟩
    clear lit3
    refine (((read_tri (some ⟨w8.heap.size, 0, none⟩) 10 [255, 255, 255, 255, 255, 255, 255, 255, 255, 2] (by decide) (by decide)).frame (Lcl.row _ _ _ _)) _ _ LT3.out).mono ?_
    rintro e w9 ⟨S9, hs9, st9⟩
    obtain ⟨r3, hf9⟩ := Sep.some hs9
    obtain ⟨rfl, h9⟩ := Sep.fact hf9
    have H9 := Lib.hid h9
    have ST9 := Lib.hid (LS3.out.trans st9)
    have FR3 := Lib.hid (uint_fr r3 (some ⟨w8.heap.size, 0, none⟩) 10 [255, 255, 255, 255, 255, 255, 255, 255, 255, 2] ⟨0, 0⟩ 18446744073709551615 (Row 5 .u8 (.slice (some ⟨w8.heap.size, 0, none⟩) 10 10) [255, 255, 255, 255, 255, 255, 255, 255, 255, 2]) (Lcl.row _ _ _ _) (fun w S h => by
      obtain ⟨_, _, e, _, hr, _⟩ := h.reads
      injection e with e1 _ e2
      subst e1 e2
      exact hr) (by intro x hx; simp at hx; omega))
    clear hs9 hf9 h9 st9 LT3 LS3
    go_wp2_with fail
    refine (FR3.out _ _ H9.out).mono ?_
    rintro e w10 ⟨S10, ⟨rfl, h10⟩, st10⟩
    have hx10 := ext_F (ST9.out.trans st10)
    obtain ⟨T10, hT10, _⟩ := h10.left
    have hle10 := far_err
    have TD3 := Lib.hid (show Told r3 4 w10 from ⟨_, _, _, _, T10, by rw [← hle10]; exact hT10⟩)
    have TDn1 := Lib.hid (TD1.out.ext hx10)
    clear TD1
    have TD1 := TDn1
    clear TDn1
    have TDn2 := Lib.hid (TD2.out.ext hx10)
    clear TD2
    have TD2 := TDn2
    clear TDn2
    have X10 := Lib.hid (Ext.trans _ _ _ X8.out hx10)
    clear hx10 h10 st10 hT10 H9 ST9 FR3 hle10 X8
    go_wp2_with fail
    refine (read_tri A c xs HA.out.le (by have := HA.out.cap; unfold maxLen at this; omega) _ _ (show Emp w10 (fun _ => False) from fun _ x => x)).mono ?_
    rintro e w11 ⟨S11, hs11, st11⟩
    obtain ⟨r4, rfl, h11⟩ := hs11
    have H11 := Lib.hid h11
    have ST11 := Lib.hid st11
    have BN := Lib.hid (bytes_no r4 A c xs ⟨0, 0⟩ ((xs.length : Int) + 1) w11 S11 h11 (.inr (by unfold rleft; simp <;> omega)) (by omega))
    clear h11 st11
    go_wp2_with fail
    refine (BN.out).mono ?_
    rintro e w12 ⟨S12, ⟨rfl, h12⟩, st12⟩
    have hx12 := ext_F (ST11.out.trans st12)
    have TD4 := Lib.hid (show Told r4 3 w12 from ⟨_, _, _, _, S12, h12⟩)
    have TDn1 := Lib.hid (TD1.out.ext hx12)
    clear TD1
    have TD1 := TDn1
    clear TDn1
    have TDn2 := Lib.hid (TD2.out.ext hx12)
    clear TD2
    have TD2 := TDn2
    clear TDn2
    have TDn3 := Lib.hid (TD3.out.ext hx12)
    clear TD3
    have TD3 := TDn3
    clear TDn3
    have X12 := Lib.hid (Ext.trans _ _ _ X10.out hx12)
    clear hx12 h12 st12 H11 ST11 BN X10
    go_wp2_with fail
    refine (read_tri A c xs HA.out.le (by have := HA.out.cap; unfold maxLen at this; omega) _ _ (show Emp w12 (fun _ => False) from fun _ x => x)).mono ?_
    rintro e w13 ⟨S13, hs13, st13⟩
    obtain ⟨r5, rfl, h13⟩ := hs13
    have H13 := Lib.hid h13
    have ST13 := Lib.hid st13
    clear h13 st13
    go_wp2_with fail
    refine (fail_tri r5 A c xs ⟨0, 0⟩ 5 (by omega) (by omega) _ _ H13.out).mono ?_
    rintro e w14 ⟨S14, ⟨rfl, h14⟩, st14⟩
    have H14 := Lib.hid (show Rd r5 A c xs ⟨0, 5⟩ w14 S14 from h14)
    have ST14 := Lib.hid (ST13.out.trans st14)
    clear h14 st14
    go_wp2_with fail
    refine (fail_tri r5 A c xs ⟨0, 5⟩ 4 (by omega) (by omega) _ _ H14.out).mono ?_
    rintro e w15 ⟨S15, ⟨rfl, h15⟩, st15⟩
    have hx15 := ext_F (ST14.out.trans st15)
    have TD5 := Lib.hid (show Told r5 5 w15 from ⟨A, c, xs, 0, S15, h15⟩)
    have TDn1 := Lib.hid (TD1.out.ext hx15)
    clear TD1
    have TD1 := TDn1
    clear TDn1
    have TDn2 := Lib.hid (TD2.out.ext hx15)
    clear TD2
    have TD2 := TDn2
    clear TDn2
    have TDn3 := Lib.hid (TD3.out.ext hx15)
    clear TD3
    have TD3 := TDn3
    clear TDn3
    have TDn4 := Lib.hid (TD4.out.ext hx15)
    clear TD4
    have TD4 := TDn4
    clear TDn4
    have X15 := Lib.hid (Ext.trans _ _ _ X12.out hx15)
    clear hx15 h15 st15 H13 ST13 H14 ST14 X12
    go_wp2_with fail
    refine (nil_wint3 _).mono ?_
    rintro e w16 ⟨rfl, hx⟩
    have TDn1 := Lib.hid (TD1.out.ext hx)
    clear TD1
    have TD1 := TDn1
    clear TDn1
    have TDn2 := Lib.hid (TD2.out.ext hx)
    clear TD2
    have TD2 := TDn2
    clear TDn2
    have TDn3 := Lib.hid (TD3.out.ext hx)
    clear TD3
    have TD3 := TDn3
    clear TDn3
    have TDn4 := Lib.hid (TD4.out.ext hx)
    clear TD4
    have TD4 := TDn4
    clear TDn4
    have TDn5 := Lib.hid (TD5.out.ext hx)
    clear TD5
    have TD5 := TDn5
    clear TDn5
    have X16 := Lib.hid (Ext.trans _ _ _ X15.out hx)
    clear X15 hx
    go_wp2_with fail
    refine (nil_wuint3 _).mono ?_
    rintro e w17 ⟨rfl, hx⟩
    have TDn1 := Lib.hid (TD1.out.ext hx)
    clear TD1
    have TD1 := TDn1
    clear TDn1
    have TDn2 := Lib.hid (TD2.out.ext hx)
    clear TD2
    have TD2 := TDn2
    clear TDn2
    have TDn3 := Lib.hid (TD3.out.ext hx)
    clear TD3
    have TD3 := TDn3
    clear TDn3
    have TDn4 := Lib.hid (TD4.out.ext hx)
    clear TD4
    have TD4 := TDn4
    clear TDn4
    have TDn5 := Lib.hid (TD5.out.ext hx)
    clear TD5
    have TD5 := TDn5
    clear TDn5
    have X17 := Lib.hid (Ext.trans _ _ _ X16.out hx)
    clear X16 hx
    go_wp2_with fail
    refine (nil_wword3 _).mono ?_
    rintro e w18 ⟨rfl, hx⟩
    have TDn1 := Lib.hid (TD1.out.ext hx)
    clear TD1
    have TD1 := TDn1
    clear TDn1
    have TDn2 := Lib.hid (TD2.out.ext hx)
    clear TD2
    have TD2 := TDn2
    clear TDn2
    have TDn3 := Lib.hid (TD3.out.ext hx)
    clear TD3
    have TD3 := TDn3
    clear TDn3
    have TDn4 := Lib.hid (TD4.out.ext hx)
    clear TD4
    have TD4 := TDn4
    clear TDn4
    have TDn5 := Lib.hid (TD5.out.ext hx)
    clear TD5
    have TD5 := TDn5
    clear TDn5
    have X18 := Lib.hid (Ext.trans _ _ _ X17.out hx)
    clear X17 hx
    go_wp2_with fail
    refine (nil_wput _ _).mono ?_
    rintro e w19 ⟨rfl, nq19, hq⟩
    have hx : Ext w18 w19 := by rw [hq]; exact ext_drewN _ _
    clear hq
    have TDn1 := Lib.hid (TD1.out.ext hx)
    clear TD1
    have TD1 := TDn1
    clear TDn1
    have TDn2 := Lib.hid (TD2.out.ext hx)
    clear TD2
    have TD2 := TDn2
    clear TDn2
    have TDn3 := Lib.hid (TD3.out.ext hx)
    clear TD3
    have TD3 := TDn3
    clear TDn3
    have TDn4 := Lib.hid (TD4.out.ext hx)
    clear TD4
    have TD4 := TDn4
    clear TDn4
    have TDn5 := Lib.hid (TD5.out.ext hx)
    clear TD5
    have TD5 := TDn5
    clear TDn5
    have X19 := Lib.hid (Ext.trans _ _ _ X18.out hx)
    clear X18 hx
    go_wp2_with fail
    refine (nil_rfail 4 _).mono ?_
    rintro e w20 ⟨rfl, nq20, hq⟩
    have hx : Ext w19 w20 := by rw [hq]; exact ext_drewN _ _
    clear hq
    have TDn1 := Lib.hid (TD1.out.ext hx)
    clear TD1
    have TD1 := TDn1
    clear TDn1
    have TDn2 := Lib.hid (TD2.out.ext hx)
    clear TD2
    have TD2 := TDn2
    clear TDn2
    have TDn3 := Lib.hid (TD3.out.ext hx)
    clear TD3
    have TD3 := TDn3
    clear TDn3
    have TDn4 := Lib.hid (TD4.out.ext hx)
    clear TD4
    have TD4 := TDn4
    clear TDn4
    have TDn5 := Lib.hid (TD5.out.ext hx)
    clear TD5
    have TD5 := TDn5
    clear TDn5
    have X20 := Lib.hid (Ext.trans _ _ _ X19.out hx)
    clear X19 hx
    go_wp2_with fail
    refine (told_err TD1.out).mono ?_
    rintro e w21 ⟨rfl, hx⟩
    have TDn1 := Lib.hid (TD1.out.ext hx)
    clear TD1
    have TD1 := TDn1
    clear TDn1
    have TDn2 := Lib.hid (TD2.out.ext hx)
    clear TD2
    have TD2 := TDn2
    clear TDn2
    have TDn3 := Lib.hid (TD3.out.ext hx)
    clear TD3
    have TD3 := TDn3
    clear TDn3
    have TDn4 := Lib.hid (TD4.out.ext hx)
    clear TD4
    have TD4 := TDn4
    clear TDn4
    have TDn5 := Lib.hid (TD5.out.ext hx)
    clear TD5
    have TD5 := TDn5
    clear TDn5
    have X21 := Lib.hid (Ext.trans _ _ _ X20.out hx)
    clear X20 hx
    go_wp2_with fail
    refine (told_err TD2.out).mono ?_
    rintro e w22 ⟨rfl, hx⟩
    have TDn1 := Lib.hid (TD1.out.ext hx)
    clear TD1
    have TD1 := TDn1
    clear TDn1
    have TDn2 := Lib.hid (TD2.out.ext hx)
    clear TD2
    have TD2 := TDn2
    clear TDn2
    have TDn3 := Lib.hid (TD3.out.ext hx)
    clear TD3
    have TD3 := TDn3
    clear TDn3
    have TDn4 := Lib.hid (TD4.out.ext hx)
    clear TD4
    have TD4 := TDn4
    clear TDn4
    have TDn5 := Lib.hid (TD5.out.ext hx)
    clear TD5
    have TD5 := TDn5
    clear TDn5
    have X22 := Lib.hid (Ext.trans _ _ _ X21.out hx)
    clear X21 hx
    go_wp2_with fail
    refine (told_err TD3.out).mono ?_
    rintro e w23 ⟨rfl, hx⟩
    have TDn1 := Lib.hid (TD1.out.ext hx)
    clear TD1
    have TD1 := TDn1
    clear TDn1
    have TDn2 := Lib.hid (TD2.out.ext hx)
    clear TD2
    have TD2 := TDn2
    clear TDn2
    have TDn3 := Lib.hid (TD3.out.ext hx)
    clear TD3
    have TD3 := TDn3
    clear TDn3
    have TDn4 := Lib.hid (TD4.out.ext hx)
    clear TD4
    have TD4 := TDn4
    clear TDn4
    have TDn5 := Lib.hid (TD5.out.ext hx)
    clear TD5
    have TD5 := TDn5
    clear TDn5
    have X23 := Lib.hid (Ext.trans _ _ _ X22.out hx)
    clear X22 hx
    go_wp2_with fail
    refine (told_err TD4.out).mono ?_
    rintro e w24 ⟨rfl, hx⟩
    have TDn1 := Lib.hid (TD1.out.ext hx)
    clear TD1
    have TD1 := TDn1
    clear TDn1
    have TDn2 := Lib.hid (TD2.out.ext hx)
    clear TD2
    have TD2 := TDn2
    clear TDn2
    have TDn3 := Lib.hid (TD3.out.ext hx)
    clear TD3
    have TD3 := TDn3
    clear TDn3
    have TDn4 := Lib.hid (TD4.out.ext hx)
    clear TD4
    have TD4 := TDn4
    clear TDn4
    have TDn5 := Lib.hid (TD5.out.ext hx)
    clear TD5
    have TD5 := TDn5
    clear TDn5
    have X24 := Lib.hid (Ext.trans _ _ _ X23.out hx)
    clear X23 hx
    go_wp2_with fail
    refine (told_err TD5.out).mono ?_
    rintro e w25 ⟨rfl, hx⟩
    have TDn1 := Lib.hid (TD1.out.ext hx)
    clear TD1
    have TD1 := TDn1
    clear TDn1
    have TDn2 := Lib.hid (TD2.out.ext hx)
    clear TD2
    have TD2 := TDn2
    clear TDn2
    have TDn3 := Lib.hid (TD3.out.ext hx)
    clear TD3
    have TD3 := TDn3
    clear TDn3
    have TDn4 := Lib.hid (TD4.out.ext hx)
    clear TD4
    have TD4 := TDn4
    clear TDn4
    have TDn5 := Lib.hid (TD5.out.ext hx)
    clear TD5
    have TD5 := TDn5
    clear TDn5
    have X25 := Lib.hid (Ext.trans _ _ _ X24.out hx)
    clear X24 hx
    go_wp2_with fail
    refine (told_end TD5.out).mono ?_
    rintro e w26 ⟨rfl, hx⟩
    have TDn1 := Lib.hid (TD1.out.ext hx)
    clear TD1
    have TD1 := TDn1
    clear TDn1
    have TDn2 := Lib.hid (TD2.out.ext hx)
    clear TD2
    have TD2 := TDn2
    clear TDn2
    have TDn3 := Lib.hid (TD3.out.ext hx)
    clear TD3
    have TD3 := TDn3
    clear TDn3
    have TDn4 := Lib.hid (TD4.out.ext hx)
    clear TD4
    have TD4 := TDn4
    clear TDn4
    have TDn5 := Lib.hid (TD5.out.ext hx)
    clear TD5
    have TD5 := TDn5
    clear TDn5
    have X26 := Lib.hid (Ext.trans _ _ _ X25.out hx)
    clear X25 hx
    go_wp2_with fail
    refine (told_left TD5.out).mono ?_
    rintro e w27 ⟨rfl, hx⟩
    have TDn1 := Lib.hid (TD1.out.ext hx)
    clear TD1
    have TD1 := TDn1
    clear TDn1
    have TDn2 := Lib.hid (TD2.out.ext hx)
    clear TD2
    have TD2 := TDn2
    clear TDn2
    have TDn3 := Lib.hid (TD3.out.ext hx)
    clear TD3
    have TD3 := TDn3
    clear TDn3
    have TDn4 := Lib.hid (TD4.out.ext hx)
    clear TD4
    have TD4 := TDn4
    clear TDn4
    have TDn5 := Lib.hid (TD5.out.ext hx)
    clear TD5
    have TD5 := TDn5
    clear TDn5
    have X27 := Lib.hid (Ext.trans _ _ _ X26.out hx)
    clear X26 hx
    go_wp2_with fail
    refine (nil_rerr _).mono ?_
    rintro e w28 ⟨rfl, nq28, hq⟩
    have hx : Ext w27 w28 := by rw [hq]; exact ext_drewN _ _
    clear hq
    have TDn1 := Lib.hid (TD1.out.ext hx)
    clear TD1
    have TD1 := TDn1
    clear TDn1
    have TDn2 := Lib.hid (TD2.out.ext hx)
    clear TD2
    have TD2 := TDn2
    clear TDn2
    have TDn3 := Lib.hid (TD3.out.ext hx)
    clear TD3
    have TD3 := TDn3
    clear TDn3
    have TDn4 := Lib.hid (TD4.out.ext hx)
    clear TD4
    have TD4 := TDn4
    clear TDn4
    have TDn5 := Lib.hid (TD5.out.ext hx)
    clear TD5
    have TD5 := TDn5
    clear TDn5
    have X28 := Lib.hid (Ext.trans _ _ _ X27.out hx)
    clear X27 hx
    go_wp2_with fail
    refine (nil_rint _).mono ?_
    rintro e w29 ⟨rfl, hx⟩
    have TDn1 := Lib.hid (TD1.out.ext hx)
    clear TD1
    have TD1 := TDn1
    clear TDn1
    have TDn2 := Lib.hid (TD2.out.ext hx)
    clear TD2
    have TD2 := TDn2
    clear TDn2
    have TDn3 := Lib.hid (TD3.out.ext hx)
    clear TD3
    have TD3 := TDn3
    clear TDn3
    have TDn4 := Lib.hid (TD4.out.ext hx)
    clear TD4
    have TD4 := TDn4
    clear TDn4
    have TDn5 := Lib.hid (TD5.out.ext hx)
    clear TD5
    have TD5 := TDn5
    clear TDn5
    have X29 := Lib.hid (Ext.trans _ _ _ X28.out hx)
    clear X28 hx
    go_wp2_with fail
    refine (nil_rword _).mono ?_
    rintro e w30 ⟨rfl, hx⟩
    have TDn1 := Lib.hid (TD1.out.ext hx)
    clear TD1
    have TD1 := TDn1
    clear TDn1
    have TDn2 := Lib.hid (TD2.out.ext hx)
    clear TD2
    have TD2 := TDn2
    clear TDn2
    have TDn3 := Lib.hid (TD3.out.ext hx)
    clear TD3
    have TD3 := TDn3
    clear TDn3
    have TDn4 := Lib.hid (TD4.out.ext hx)
    clear TD4
    have TD4 := TDn4
    clear TDn4
    have TDn5 := Lib.hid (TD5.out.ext hx)
    clear TD5
    have TD5 := TDn5
    clear TDn5
    have X30 := Lib.hid (Ext.trans _ _ _ X29.out hx)
    clear X29 hx
    go_wp2_with fail
    refine (nil_rend _).mono ?_
    rintro e w31 ⟨rfl, nq31, hq⟩
    have hx : Ext w30 w31 := by rw [hq]; exact ext_drewN _ _
    clear hq
    have TDn1 := Lib.hid (TD1.out.ext hx)
    clear TD1
    have TD1 := TDn1
    clear TDn1
    have TDn2 := Lib.hid (TD2.out.ext hx)
    clear TD2
    have TD2 := TDn2
    clear TDn2
    have TDn3 := Lib.hid (TD3.out.ext hx)
    clear TD3
    have TD3 := TDn3
    clear TDn3
    have TDn4 := Lib.hid (TD4.out.ext hx)
    clear TD4
    have TD4 := TDn4
    clear TDn4
    have TDn5 := Lib.hid (TD5.out.ext hx)
    clear TD5
    have TD5 := TDn5
    clear TDn5
    have X31 := Lib.hid (Ext.trans _ _ _ X30.out hx)
    clear X30 hx
    go_wp2_with fail
    refine (nil_rat _).mono ?_
    rintro e w32 ⟨rfl, nq32, hq⟩
    have hx : Ext w31 w32 := by rw [hq]; exact ext_drewN _ _
    clear hq
    have TDn1 := Lib.hid (TD1.out.ext hx)
    clear TD1
    have TD1 := TDn1
    clear TDn1
    have TDn2 := Lib.hid (TD2.out.ext hx)
    clear TD2
    have TD2 := TDn2
    clear TDn2
    have TDn3 := Lib.hid (TD3.out.ext hx)
    clear TD3
    have TD3 := TDn3
    clear TDn3
    have TDn4 := Lib.hid (TD4.out.ext hx)
    clear TD4
    have TD4 := TDn4
    clear TDn4
    have TDn5 := Lib.hid (TD5.out.ext hx)
    clear TD5
    have TD5 := TDn5
    clear TDn5
    have X32 := Lib.hid (Ext.trans _ _ _ X31.out hx)
    clear X31 hx
    go_wp2_with fail
    refine (nil_rleft _).mono ?_
    rintro e w33 ⟨rfl, nq33, hq⟩
    have hx : Ext w32 w33 := by rw [hq]; exact ext_drewN _ _
    clear hq
    have TDn1 := Lib.hid (TD1.out.ext hx)
    clear TD1
    have TD1 := TDn1
    clear TDn1
    have TDn2 := Lib.hid (TD2.out.ext hx)
    clear TD2
    have TD2 := TDn2
    clear TDn2
    have TDn3 := Lib.hid (TD3.out.ext hx)
    clear TD3
    have TD3 := TDn3
    clear TDn3
    have TDn4 := Lib.hid (TD4.out.ext hx)
    clear TD4
    have TD4 := TDn4
    clear TDn4
    have TDn5 := Lib.hid (TD5.out.ext hx)
    clear TD5
    have TD5 := TDn5
    clear TDn5
    have X33 := Lib.hid (Ext.trans _ _ _ X32.out hx)
    clear X32 hx
    go_wp2_with fail
    refine (nil_rbytes1 _).mono ?_
    rintro e w34 ⟨rfl, hx⟩
    have TDn1 := Lib.hid (TD1.out.ext hx)
    clear TD1
    have TD1 := TDn1
    clear TDn1
    have TDn2 := Lib.hid (TD2.out.ext hx)
    clear TD2
    have TD2 := TDn2
    clear TDn2
    have TDn3 := Lib.hid (TD3.out.ext hx)
    clear TD3
    have TD3 := TDn3
    clear TDn3
    have TDn4 := Lib.hid (TD4.out.ext hx)
    clear TD4
    have TD4 := TDn4
    clear TDn4
    have TDn5 := Lib.hid (TD5.out.ext hx)
    clear TD5
    have TD5 := TDn5
    clear TDn5
    have X34 := Lib.hid (Ext.trans _ _ _ X33.out hx)
    clear X33 hx
    go_wp2_with fail
    refine (nil_wlen _).mono ?_
    rintro e w35 ⟨rfl, nq35, hq⟩
    have hx : Ext w34 w35 := by rw [hq]; exact ext_drewN _ _
    clear hq
    have TDn1 := Lib.hid (TD1.out.ext hx)
    clear TD1
    have TD1 := TDn1
    clear TDn1
    have TDn2 := Lib.hid (TD2.out.ext hx)
    clear TD2
    have TD2 := TDn2
    clear TDn2
    have TDn3 := Lib.hid (TD3.out.ext hx)
    clear TD3
    have TD3 := TDn3
    clear TDn3
    have TDn4 := Lib.hid (TD4.out.ext hx)
    clear TD4
    have TD4 := TDn4
    clear TDn4
    have TDn5 := Lib.hid (TD5.out.ext hx)
    clear TD5
    have TD5 := TDn5
    clear TDn5
    have X35 := Lib.hid (Ext.trans _ _ _ X34.out hx)
    clear X34 hx
    go_wp2_with fail
    refine (nil_wbytes _).mono ?_
    rintro e w36 ⟨rfl, nq36, hq⟩
    have hx : Ext w35 w36 := by rw [hq]; exact ext_drewN _ _
    clear hq
    have TDn1 := Lib.hid (TD1.out.ext hx)
    clear TD1
    have TD1 := TDn1
    clear TDn1
    have TDn2 := Lib.hid (TD2.out.ext hx)
    clear TD2
    have TD2 := TDn2
    clear TDn2
    have TDn3 := Lib.hid (TD3.out.ext hx)
    clear TD3
    have TD3 := TDn3
    clear TDn3
    have TDn4 := Lib.hid (TD4.out.ext hx)
    clear TD4
    have TD4 := TDn4
    clear TDn4
    have TDn5 := Lib.hid (TD5.out.ext hx)
    clear TD5
    have TD5 := TDn5
    clear TDn5
    have X36 := Lib.hid (Ext.trans _ _ _ X35.out hx)
    clear X35 hx
    go_wp2_with fail
    go_ret
    exact ⟨rfl, X36.out⟩
end Go.Proofs.Ytpgnlpcnancplaa.Wire
