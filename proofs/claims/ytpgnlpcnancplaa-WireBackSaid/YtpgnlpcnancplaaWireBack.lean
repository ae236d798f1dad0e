/- The law WireBack, at every input. -/
import Derived.Test.YtpgnlpcnancplaaWireAux
namespace Go.Proofs.Ytpgnlpcnancplaa.Wire
open Go.RowKit Go.Proofs.Ytpgnlpcnancplaa.Own Go.Proofs.Ytpgnlpcnancplaa.Rely
attribute [local go_sem] max_ints min_ints

set_option maxHeartbeats 40000000 in
set_option maxRecDepth 20000 in
theorem back_wf (A : Option Addr) (c : Nat) (xs : List Int) (B : Option Addr) (d : Nat) (ys : List Int) (C : Option Addr) (ce : Nat) (zs : List Int) (D : Option Addr) (cd : Nat) (b : List Int) (w : World)
    (h : ArgI w .u64 A c xs) (h' : ArgI w .i64 B d ys) (h'' : ArgI w .u32 C ce zs) (hb : ArgI w .u8 D cd b) :
    Calls Try.prog 9 #[.slice A xs.length c, .slice B ys.length d, .slice C zs.length ce, .slice D b.length cd] w fun e w' => e = .returned (.bool true) ∧ Below w.heap.size w w' := by
  have HA := Lib.hid h.reads
  have HB := Lib.hid h'.reads
  have HC := Lib.hid h''.reads
  have HD := Lib.hid hb.reads
  have HRA := Lib.hid (fun (x : Int) (hx : x ∈ xs) => wf_u64 (h.rng x hx))
  have HRB := Lib.hid (fun (x : Int) (hx : x ∈ ys) => wf_i64 (h'.rng x hx))
  have HRC := Lib.hid (fun (x : Int) (hx : x ∈ zs) => wf_u32 (h''.rng x hx))
  have HRD : RowKit.Hid (IsBytes b) := Lib.hid (fun x hx => wf_u8 (hb.rng x hx))
  have hem : Emp w (fun _ => False) := fun _ x => x
  have HE := Lib.hid hem
  clear h h' h'' hb hem
  go_enter Try.func9, Try.ntmps9
  go_wp2_with fail
  refine (awake_tri _ _ HE.out).mono ?_
  rintro e w1 ⟨S1, ⟨rfl, h1⟩, st1⟩
  have ST1 := Lib.hid (show Step (fun _ => False) (fun _ => False) w w1 from ⟨st1.keep, fun _ x => x.elim⟩)
  clear h1 st1
  by_cases hall : 30 < xs.length ∨ 30 < ys.length ∨ 30 < zs.length ∨ 100 < b.length
  · by_cases g1 : 30 < xs.length
    · have d1 : decide ((30 : Int) < (xs.length : Int)) = true := by simp <;> omega
      go_wp2_with fail
      go_ret
      exact ⟨rfl, belowF ST1.out⟩
    have d1 : decide ((30 : Int) < (xs.length : Int)) = false := by simp <;> omega
    by_cases g2 : 30 < ys.length
    · have d2 : decide ((30 : Int) < (ys.length : Int)) = true := by simp <;> omega
      go_wp2_with fail
      go_ret
      exact ⟨rfl, belowF ST1.out⟩
    have d2 : decide ((30 : Int) < (ys.length : Int)) = false := by simp <;> omega
    by_cases g3 : 30 < zs.length
    · have d3 : decide ((30 : Int) < (zs.length : Int)) = true := by simp <;> omega
      go_wp2_with fail
      go_ret
      exact ⟨rfl, belowF ST1.out⟩
    have d3 : decide ((30 : Int) < (zs.length : Int)) = false := by simp <;> omega
    have d4 : decide ((100 : Int) < (b.length : Int)) = true := by simp <;> omega
    go_wp2_with fail
    go_ret
    exact ⟨rfl, belowF ST1.out⟩
  have hna : xs.length ≤ 30 := by omega
  have hnb : ys.length ≤ 30 := by omega
  have hnc : zs.length ≤ 30 := by omega
  have hnd : b.length ≤ 100 := by omega
  have d1 : decide ((30 : Int) < (xs.length : Int)) = false := by simp <;> omega
  have d2 : decide ((30 : Int) < (ys.length : Int)) = false := by simp <;> omega
  have d3 : decide ((30 : Int) < (zs.length : Int)) = false := by simp <;> omega
  have d4 : decide ((100 : Int) < (b.length : Int)) = false := by simp <;> omega
  have n1 := new_writer Lcl.emp (w := w1) (S := fun _ => False) (fun _ x => x)
  have H3 := Lib.hid (Sep.left_of_emp n1.1)
  have ST3 := Lib.hid (ST1.out.trans n1.2)
  clear n1 hall
  go_wp2_with fail
  generalize w1.alloc (.cells #[.slice none 0 0] 28) = w3 at H3 ST3 ⊢
  generalize w1.heap.size = p at H3 ST3 ⊢
  go_loopw [10, 48] (fun v10 v wr => ∃ (k : Nat) (S' : Nat → Prop), k ≤ xs.length ∧ v = .int .i64 k ∧ Sep (Wr p (encF f1 (xs.take k))) (Row 5 .u8 v10 (encF f1 (xs.take k))) wr S' ∧ Step (fun _ => False) S' w wr) (fun _ v _ => xs.length - (intOf v).toNat)
  case atStart => exact ⟨0, _, by omega, rfl, ⟨_, fun _ => False, H3.out, Row.nil _ _ _, fun _ _ x => x, fun k => by simp⟩, ST3.out⟩
  case round =>
    clear H3 ST3
    obtain ⟨k, S', hk, rfl, hw, hst⟩ := hrel
    have HW := Lib.hid hw
    have ST := Lib.hid hst
    clear hw hst
    by_cases hlt : k < xs.length
    · obtain ⟨b0, o, rfl, hblt, cx⟩ := (HA.out.later (belowF ST.out)).at hlt
      have hz0 := HRA.out (xs.getD k 0) (by simp [List.getD_eq_getElem?_getD, List.getElem?_eq_getElem hlt])
      have hT := (encF_step f1 xs k hlt).1
      obtain ⟨m, hm⟩ := Int.eq_ofNat_of_zero_le hz0.1
      rw [hm] at cx hT
      simp only [f1, Int.toNat_natCast, hm] at hT hz0
      have hm1 := Lib.hid (show U64 m by show m < 18446744073709551616; omega)
      have HT := Lib.hid hT
      have h4 := encF_len f1 (xs.take k) (fun x hx => enc_ten (by have := HRA.out x (List.mem_of_mem_take hx); show x.toNat < 18446744073709551616; omega))
      have h5 : (encF f1 (xs.take k)).length ≤ 300 := by simp at h4; omega
      have h10 := enc_ten hm1.out
      clear h4 hz0 hm hT
      have hk4 : (k : Int) < (xs.length : Int) := by omega
      generalize encF f1 (xs.take k) = P at HW HT h5 ⊢
      go_wp2_with fail
      refine (((uint_tri p P m (by omega) hm1.out).frame (Lcl.row 5 .u8 u10 P)) _ _ HW.out).mono ?_
      rintro e w4 ⟨S4, hf, st4⟩
      obtain ⟨rfl, h4⟩ := Sep.fact hf
      have H4 := Lib.hid h4
      have ST4 := Lib.hid (ST.out.trans st4)
      clear hf h4 st4 HW ST
      go_wp2_with fail
      refine (refUint_c m hm1.out w4).mono ?_
      rintro e w5 ⟨A5, c5, rfl, hr5, hx5⟩
      have H5 := Lib.hid (Ext.keep ((loc_wr _ _).sep (Lcl.row _ _ _ _)) hx5 H4.out).comm
      have ST5 := Lib.hid (ST4.out.trans ⟨Keep.of_below hx5, fun x hx => .inl hx⟩)
      have HR5 := Lib.hid hr5
      clear hr5 hx5 H4 ST4
      go_wp2_with (at_builtin; refine append_row _ rfl _ _ 26 rfl 5 .u8 1 Try.underlying26 info_u8 (by decide) _ P (enc m) A5 (enc m).length c5 rfl rfl rfl (loc_wr _ _) H5.out HR5.out (by omega) ?_; intro A' c' w' S6 h' st'; have H6 := Lib.hid h'.comm; have ST6 := Lib.hid (ST5.out.trans st'); clear h' st')
      go_roundw
      case rel => exact ⟨k + 1, S6, by omega, rfl, by rw [HT.out]; exact H6.out, ST6.out⟩
      case measure => first | (simp [intOf]; done) | (simp [intOf]; omega)
    · obtain rfl : k = xs.length := by omega
      rw [List.take_length] at HW
      have hl0 := encF_len f1 xs (fun x hx => enc_ten (by have := HRA.out x hx; show x.toNat < 18446744073709551616; omega))
      have hb0 : IsBytes (encF f1 xs) := encF_bytes f1 xs (fun x _ => enc_bytes _)
      obtain ⟨P1, e0⟩ : ∃ P1, P1 = encF f1 xs := ⟨_, rfl⟩
      have l0 : P1.length ≤ 300 := by rw [e0]; omega
      have b0 : RowKit.Hid (IsBytes P1) := Lib.hid (by rw [e0]; exact hb0)
      rw [← e0] at HW
      have E0 := Lib.hid e0
      clear hl0 hb0 e0
      go_wp2_with fail
      rename_i K0 hK0 K1 hK1; clear hK0
      go_loopw [10, 62] (fun v10 v wr => ∃ (k : Nat) (S' : Nat → Prop), k ≤ ys.length ∧ v = .int .i64 k ∧ Sep (Wr p (P1 ++ encF f2 (ys.take k))) (Row 5 .u8 v10 (P1 ++ encF f2 (ys.take k))) wr S' ∧ Step (fun _ => False) S' w wr) (fun _ v _ => ys.length - (intOf v).toNat)
      case atStart => exact ⟨0, _, by omega, rfl, by simpa [encF] using HW.out, ST.out⟩
      case round =>
        clear HW ST
        obtain ⟨k, S', hk, rfl, hw, hst⟩ := hrel
        have HW := Lib.hid hw
        have ST := Lib.hid hst
        clear hw hst
        by_cases hlt : k < ys.length
        · obtain ⟨b0, o, rfl, hblt, cx⟩ := (HB.out.later (belowF ST.out)).at hlt
          have hz0 := HRB.out (ys.getD k 0) (by simp [List.getD_eq_getElem?_getD, List.getElem?_eq_getElem hlt])
          have hT := (encF_step f2 ys k hlt).1
          obtain ⟨y, hm⟩ : ∃ y, ys.getD k 0 = y := ⟨_, rfl⟩
          rw [hm] at cx hT hz0
          simp only [f2] at hT
          have hm1 := Lib.hid hz0
          have HT := Lib.hid hT
          have h4 := encF_len f2 (ys.take k) (fun x hx => by have := HRB.out x (List.mem_of_mem_take hx); exact enc_ten (Bit.zig_lt this.1 this.2))
          have h5 : (encF f2 (ys.take k)).length ≤ 300 := by simp at h4; omega
          have h10 := enc_ten (Bit.zig_lt hm1.out.1 hm1.out.2)
          clear h4 hz0 hm hT
          have hk4 : (k : Int) < (ys.length : Int) := by omega
          have h6 : (P1 ++ encF f2 (ys.take k)).length ≤ 600 := by rw [List.length_append]; omega
          have HT2 := Lib.hid (show P1 ++ encF f2 (ys.take (k + 1)) = (P1 ++ encF f2 (ys.take k)) ++ enc (Bit.zig y) by rw [HT.out, List.append_assoc])
          clear h5 HT
          generalize P1 ++ encF f2 (ys.take k) = P at HW HT2 h6 ⊢
          go_wp2_with fail
          refine (((int_tri p P y (by omega) hm1.out.1 hm1.out.2).frame (Lcl.row 5 .u8 u10 P)) _ _ HW.out).mono ?_
          rintro e w4 ⟨S4, hf, st4⟩
          obtain ⟨rfl, h4⟩ := Sep.fact hf
          have H4 := Lib.hid h4
          have ST4 := Lib.hid (ST.out.trans st4)
          clear hf h4 st4 HW ST
          go_wp2_with fail
          refine (refInt_c y hm1.out.1 hm1.out.2 w4).mono ?_
          rintro e w5 ⟨A5, c5, rfl, hr5, hx5⟩
          have H5 := Lib.hid (Ext.keep ((loc_wr _ _).sep (Lcl.row _ _ _ _)) hx5 H4.out).comm
          have ST5 := Lib.hid (ST4.out.trans ⟨Keep.of_below hx5, fun x hx => .inl hx⟩)
          have HR5 := Lib.hid hr5
          clear hr5 hx5 H4 ST4
          go_wp2_with (at_builtin; refine append_row _ rfl _ _ 26 rfl 5 .u8 1 Try.underlying26 info_u8 (by decide) _ P (enc (Bit.zig y)) A5 (enc (Bit.zig y)).length c5 rfl rfl rfl (loc_wr _ _) H5.out HR5.out (by omega) ?_; intro A' c' w' S6 h' st'; have H6 := Lib.hid h'.comm; have ST6 := Lib.hid (ST5.out.trans st'); clear h' st')
          go_roundw
          case rel => exact ⟨k + 1, S6, by omega, rfl, by rw [HT2.out]; exact H6.out, ST6.out⟩
          case measure => first | (simp [intOf]; done) | (simp [intOf]; omega)
        · obtain rfl : k = ys.length := by omega
          rw [List.take_length] at HW
          have hl1 := encF_len f2 ys (fun x hx => by have := HRB.out x hx; exact enc_ten (Bit.zig_lt this.1 this.2))
          have hb1 : IsBytes (encF f2 ys) := encF_bytes f2 ys (fun x _ => enc_bytes _)
          obtain ⟨P2, e1⟩ : ∃ P2, P2 = P1 ++ encF f2 ys := ⟨_, rfl⟩
          have l1 : P2.length ≤ 600 := by rw [e1, List.length_append]; omega
          have b1 : RowKit.Hid (IsBytes P2) := Lib.hid (by rw [e1]; exact IsBytes.app b0.out hb1)
          rw [← e1] at HW
          have E1 := Lib.hid e1
          clear hl1 hb1 e1
          go_wp2_with fail
          rename_i K0 hK0 K1 hK1; clear hK0
          go_loopw [10, 76] (fun v10 v wr => ∃ (k : Nat) (S' : Nat → Prop), k ≤ zs.length ∧ v = .int .i64 k ∧ Sep (Wr p (P2 ++ encF f3 (zs.take k))) (Row 5 .u8 v10 (P2 ++ encF f3 (zs.take k))) wr S' ∧ Step (fun _ => False) S' w wr) (fun _ v _ => zs.length - (intOf v).toNat)
          case atStart => exact ⟨0, _, by omega, rfl, by simpa [encF] using HW.out, ST.out⟩
          case round =>
            clear HW ST
            obtain ⟨k, S', hk, rfl, hw, hst⟩ := hrel
            have HW := Lib.hid hw
            have ST := Lib.hid hst
            clear hw hst
            by_cases hlt : k < zs.length
            · obtain ⟨b0, o, rfl, hblt, cx⟩ := (HC.out.later (belowF ST.out)).at hlt
              have hz0 := HRC.out (zs.getD k 0) (by simp [List.getD_eq_getElem?_getD, List.getElem?_eq_getElem hlt])
              have hT := (encF_step f3 zs k hlt).1
              obtain ⟨m, hm⟩ := Int.eq_ofNat_of_zero_le hz0.1
              rw [hm] at cx hT
              simp only [f3, Int.toNat_natCast, hm] at hT hz0
              have hm1 := Lib.hid (show m ≤ 4294967295 by omega)
              have HT := Lib.hid hT
              have h4 := encF_len f3 (zs.take k) (fun x hx => by unfold f3; rw [word4_len]; omega)
              have h5 : (encF f3 (zs.take k)).length ≤ 300 := by simp at h4; omega
              have h10 : (word4 m).length ≤ 10 := by rw [word4_len]; omega
              clear h4 hz0 hm hT
              have hk4 : (k : Int) < (zs.length : Int) := by omega
              have h6 : (P2 ++ encF f3 (zs.take k)).length ≤ 900 := by rw [List.length_append]; omega
              have HT2 := Lib.hid (show P2 ++ encF f3 (zs.take (k + 1)) = (P2 ++ encF f3 (zs.take k)) ++ word4 m by rw [HT.out, List.append_assoc])
              clear h5 HT
              generalize P2 ++ encF f3 (zs.take k) = P at HW HT2 h6 ⊢
              go_wp2_with fail
              refine (((word_tri p P m (by omega) hm1.out).frame (Lcl.row 5 .u8 u10 P)) _ _ HW.out).mono ?_
              rintro e w4 ⟨S4, hf, st4⟩
              obtain ⟨rfl, h4⟩ := Sep.fact hf
              have H4 := Lib.hid h4
              have ST4 := Lib.hid (ST.out.trans st4)
              clear hf h4 st4 HW ST
              go_wp2_with fail
              refine (refWord_c m hm1.out w4).mono ?_
              rintro e w5 ⟨A5, c5, rfl, hr5, hx5⟩
              have H5 := Lib.hid (Ext.keep ((loc_wr _ _).sep (Lcl.row _ _ _ _)) hx5 H4.out).comm
              have ST5 := Lib.hid (ST4.out.trans ⟨Keep.of_below hx5, fun x hx => .inl hx⟩)
              have HR5 := Lib.hid hr5
              clear hr5 hx5 H4 ST4
              go_wp2_with (at_builtin; refine append_row _ rfl _ _ 26 rfl 5 .u8 1 Try.underlying26 info_u8 (by decide) _ P (word4 m) A5 (word4 m).length c5 rfl rfl rfl (loc_wr _ _) H5.out HR5.out (by omega) ?_; intro A' c' w' S6 h' st'; have H6 := Lib.hid h'.comm; have ST6 := Lib.hid (ST5.out.trans st'); clear h' st')
              go_roundw
              case rel => exact ⟨k + 1, S6, by omega, rfl, by rw [HT2.out]; exact H6.out, ST6.out⟩
              case measure => first | (simp [intOf]; done) | (simp [intOf]; omega)
            · obtain rfl : k = zs.length := by omega
              rw [List.take_length] at HW
              have hl2 := encF_len f3 zs (fun x hx => by unfold f3; rw [word4_len]; omega)
              have hb2 : IsBytes (encF f3 zs) := encF_bytes f3 zs (fun x hx => word4_bytes (by have := HRC.out x hx; omega))
              obtain ⟨P3, e2⟩ : ∃ P3, P3 = P2 ++ encF f3 zs := ⟨_, rfl⟩
              have l2 : P3.length ≤ 900 := by rw [e2, List.length_append]; omega
              have b2 : RowKit.Hid (IsBytes P3) := Lib.hid (by rw [e2]; exact IsBytes.app b1.out hb2)
              rw [← e2] at HW
              have E2 := Lib.hid e2
              clear hl2 hb2 e2
              go_wp2_with fail
              refine (Calls.sep (Lcl.row 5 .u8 u10 P3) HW.out (fun S1 h1 => put_c p P3 D cd b wr S1 h1 (HD.out.later (belowF ST.out)) (by omega))).mono ?_
              rintro e w4 ⟨S4, hf, st4⟩
              obtain ⟨rfl, h4⟩ := Sep.fact hf
              have H4 := Lib.hid h4
              have ST4 := Lib.hid (ST.out.trans st4)
              clear hf h4 st4 HW ST
              go_wp2_with fail
              refine (((byte_tri p (P3 ++ b) 7 (by rw [List.length_append]; omega)).frame (Lcl.row 5 .u8 u10 P3)) _ _ H4.out).mono ?_
              rintro e w5 ⟨S5, hf, st5⟩
              obtain ⟨rfl, h5⟩ := Sep.fact hf
              have H5 := Lib.hid h5.comm
              have ST5 := Lib.hid (ST4.out.trans st5)
              have HD5 := Lib.hid (HD.out.later (belowF ST5.out))
              clear hf h5 st5 H4 ST4
              go_wp2_with (first
                | (at_builtin; refine append_row _ rfl _ _ 26 rfl 5 .u8 1 Try.underlying26 info_u8 (by decide) _ P3 b D b.length cd rfl rfl rfl (loc_wr _ _) H5.out HD5.out (by omega) ?_; intro A6 c6 w6 S6 h6 st6; have H6 := Lib.hid h6; have ST6 := Lib.hid (ST5.out.trans st6); clear h6 st6)
                | (at_builtin; refine append_lit _ 5 rfl _ _ 26 rfl .u8 1 Try.underlying26 info_u8 (by decide) _ (P3 ++ b) [7] 1 1 rfl rfl rfl rfl (loc_wr _ _) H6.out (by simp only [List.length_cons, List.length_nil, List.length_append]; omega) ?_; intro A7 c7 w7 S7 h7 st7; have H7 := Lib.hid h7; have ST7 := Lib.hid (ST6.out.trans st7); clear h7 st7))

              obtain ⟨X, hX⟩ : ∃ X, X = P3 ++ b ++ [7] := ⟨_, rfl⟩
              have hXl : X.length = P3.length + b.length + 1 := by rw [hX]; simp <;> omega
              have e7 : (P3 ++ b).length + 1 = X.length := by rw [hX]; simp <;> omega
              have HXB : RowKit.Hid (IsBytes X) := Lib.hid (by rw [hX]; exact IsBytes.app (IsBytes.app b2.out HRD.out) (fun x hx => by simp at hx; omega))
              rw [← hX, e7] at H7
              have hX6 : X.length ≤ 1001 := by omega
              have HX := Lib.hid hX
              rw [← hXl]
              have HXL := Lib.hid hXl
              clear hX hXl e7 H6 ST6 H5 ST5 HD5
              obtain ⟨T7, hT7, _⟩ := H7.out.comm.left
              obtain ⟨T8, hT8, hs8⟩ := H7.out.comm.drop
              obtain ⟨A8, c8, e8, hc8, hr8, hin8⟩ := hT8.reads
              injection e8 with e81 _ e82
              subst e81 e82
              have TW := Lib.hid hT7
              have TR := Lib.hid hT8
              have HR7 := Lib.hid hr8
              have ST8 := Lib.hid (ST7.out.less hs8)
              have HN8 := Lib.hid hin8
              have hc7 : c7 ≤ 9223372036854775807 := by
                obtain ⟨_, _, e, _, hm⟩ := hT8.shape
                injection e with _ _ e2
                subst e2
                unfold maxLen at hm; omega
              clear hT7 hT8 hr8 hin8 H7 ST7 hs8
              go_wp2_with fail
              refine wp_region_rely (by kernel_rfl) Ext Ext.refl Ext.trans [[(9, none)], [(98, some 0)], [(99, some 1)], [(10, none)], [(101, some 3)], [(100, some 2), (102, some 4)], [(103, some 5)], [(9, none)], [(105, some 7)], [(10, none)], [(107, some 9)], [(106, some 8), (108, some 10)], [(104, some 6), (109, some 11)]] [some 98, some 99, some 100, some 101, some 102, some 103, some 104, some 105, some 106, some 107, some 108, some 109, some 110] (by kernel_rfl) (by kernel_rfl) ?_
              -- 0: slot 98 := Op.move t9
              apply rely_const; case h => (intro wr hR a' h9 K hK; go_wp2_with fail; exact Ext.refl _)
              -- 1: slot 99 := Op.call Bytes
              refine rely_rel (fun v wr => ∃ A c, v = .slice A X.length c ∧ Reads wr .u8 A X) (fun v w w' ⟨A, c, e, k⟩ x => ⟨A, c, e, x.reads k⟩) ?_ ?_
              · intro wr hR a' h98 K hK
                have HK := Lib.hid hK
                clear hK
                go_wp2_with fail
                refine (wbytes_c p X (by omega) wr _ (Ext.keep (loc_wr _ _) hR.undrew TW.out)).mono ?_
                rintro e w2 ⟨A, c, rfl, hr, hb, _⟩
                go_wp2_with fail
                exact HK.out _ _ hb ⟨A, c, rfl, hr⟩
              -- 2: slot 100 := Op.convert 26 9 t99
              apply rely_const
              case h =>
                rintro wr hR a' v h99 ⟨A, c, rfl, hr⟩ K hK
                have hcv := hr.string (P := Try.prog) Try.underlying26 Try.underlying5 Try.underlying9 c
                go_wp2_with fail
                exact Ext.refl _
              -- 3: slot 101 := Op.move t10
              apply rely_const; case h => (intro wr hR a' h10 K hK; go_wp2_with fail; exact Ext.refl _)
              -- 4: slot 102 := Op.convert 26 9 t101
              apply rely_const; case h => (intro wr hR a' h101 K hK; have hcv := (hR.undrew.reads HR7.out).string (P := Try.prog) Try.underlying26 Try.underlying5 Try.underlying9 c7; go_wp2_with fail; exact Ext.refl _)
              -- 5: slot 103 := Op.binOp BinOp.neq 9 t100 t102 9
              apply rely_const; case h => (intro wr hR a' h100 h102 K hK; go_wp2_with fail; exact Ext.refl _)
              -- 6: slot 104 := Op.move t103
              apply rely_const; case h => (intro wr hR a' h103 K hK; go_wp2_with fail; exact Ext.refl _)
              -- 7: slot 105 := Op.move t9 GUARD 6 false
              apply rely_const_in _ rfl; case h => (intro wr hR a' h9 K hK; go_wp2_with fail; exact Ext.refl _)
              -- 8: slot 106 := Op.call Len
              apply rely_const_in _ rfl
              case h =>
                intro wr hR a' h105 K hK
                go_wp2_with fail
                refine (len_is p X wr _ (Ext.keep (loc_wr _ _) hR.undrew TW.out)).mono ?_
                rintro e w2 ⟨rfl, rfl⟩
                go_wp2_with fail
                exact Ext.refl _
              -- 9: slot 107 := Op.move t10 GUARD 6 false
              apply rely_const_in _ rfl; case h => (intro wr hR a' h10 K hK; go_wp2_with fail; exact Ext.refl _)
              -- 10: slot 108 := Op.call { builtin len, args := #[t107], argTypes := #[26] } GUARD 6 false
              apply rely_const_in _ rfl; case h => (intro wr hR a' h107 K hK; go_wp2_with fail; exact Ext.refl _)
              -- 11: slot 109 := Op.binOp BinOp.neq 3 t106 t108 3 GUARD 6 false
              apply rely_const_in _ rfl; case h => (intro wr hR a' h106 h108 K hK; go_wp2_with fail; exact Ext.refl _)
              -- 12: slot 110 := Op.pick t104 (const (Value.bool true)) t109
              apply rely_const; case h => (intro wr hR a' h104 h109 K hK; go_wp2_with fail; exact Ext.refl _)
              refine rely_end ?_
              intro wr hR
              simp only [ends, Act.put, List.setIfInBounds_toArray, List.set_cons_zero, List.set_cons_succ]
              rintro v99 ⟨Ab, cb, rfl, _⟩
              have TR2 := Lib.hid (Sep.emp_left (Ext.keep (Lcl.row _ _ _ _) hR.undrew TR.out))
              have ST9 := Lib.hid (ST8.out.trans ⟨Keep.of_below hR.undrew, fun x hx => .inl hx⟩)
              clear hR TW TR HR7 ST8
              go_wp2_with fail
              refine (((read_tri A7 c7 X hc8 hc7).frame (Lcl.row 5 .u8 (.slice A7 X.length c7) X)) _ _ TR2.out).mono ?_
              rintro e w9 ⟨S9, hs9, st9⟩
              obtain ⟨r, hf9⟩ := Sep.some hs9
              obtain ⟨rfl, h9⟩ := Sep.fact hf9
              have H9 := Lib.hid h9
              have ST10 := Lib.hid (ST9.out.trans st9)
              clear hs9 hf9 h9 st9 TR2 ST9
              have HRX : RowKit.Hid (∀ w S, Row 5 .u8 (.slice A7 X.length c7) X w S → Reads w .u8 A7 X) := Lib.hid (by
                intro w S h
                obtain ⟨_, _, e, _, hr, _⟩ := h.reads
                injection e with e1 _ e2
                subst e1 e2
                exact hr)
              have HNX : RowKit.Hid (∀ w S, Row 5 .u8 (.slice A7 X.length c7) X w S → ∀ a, A7 = some a → S a.block) := Lib.hid (by
                intro w S h
                obtain ⟨_, _, e, _, _, hr⟩ := h.reads
                injection e with e1 _ e2
                subst e1 e2
                exact hr)
              go_wp2_with fail
              go_loopw [115] (fun v wr => ∃ (k : Nat) (S' : Nat → Prop), k ≤ xs.length ∧ v = .int .i64 k ∧ Sep (Rd r A7 c7 X ⟨(encF f1 (xs.take k)).length, 0⟩) (Row 5 .u8 (.slice A7 X.length c7) X) wr S' ∧ Step (fun _ => False) S' w wr) (fun v _ => xs.length - (intOf v).toNat)
              case atStart => exact ⟨0, _, by omega, rfl, H9.out, ST10.out⟩
              case round =>
                clear H9 ST10
                obtain ⟨k, S', hk, rfl, hw, hst⟩ := hrel
                have HW := Lib.hid hw
                have ST := Lib.hid hst
                clear hw hst
                by_cases hlt : k < xs.length
                · obtain ⟨b0, o, rfl, hblt, cx⟩ := (HA.out.later (belowF ST.out)).at hlt
                  have hz0 := HRA.out (xs.getD k 0) (by simp [List.getD_eq_getElem?_getD, List.getElem?_eq_getElem hlt])
                  obtain ⟨q1, q2⟩ := encF_step f1 xs k hlt
                  have hd : X.drop (encF f1 (xs.take k)).length = f1 (xs.getD k 0) ++ (encF f1 (xs.drop (k + 1)) ++ (encF f2 ys ++ (encF f3 zs ++ (b ++ [7])))) := by
                    have e : X = encF f1 (xs.take k) ++ (f1 (xs.getD k 0) ++ (encF f1 (xs.drop (k + 1)) ++ (encF f2 ys ++ (encF f3 zs ++ (b ++ [7]))))) := by
                      rw [HX.out, E2.out, E1.out, E0.out, q2]; simp only [List.append_assoc]
                    rw [e, List.drop_left]
                  obtain ⟨m, hm⟩ := Int.eq_ofNat_of_zero_le hz0.1
                  rw [hm] at cx q1 hd
                  simp only [f1, Int.toNat_natCast] at q1 hd
                  have hm1 : U64 m := by show m < 18446744073709551616; omega
                  have hrn := rnum_enc (most := 18446744073709551615) hd hm1 (by have : m < 18446744073709551616 := hm1; omega)
                  have hq1 : (encF f1 (xs.take (k + 1))).length = (encF f1 (xs.take k)).length + (enc m).length := by rw [q1, List.length_append]
                  have HQ1 := Lib.hid hq1
                  have HU := uint_fr r A7 c7 X ⟨(encF f1 (xs.take k)).length, 0⟩ 18446744073709551615 _ (Lcl.row 5 .u8 (.slice A7 X.length c7) X) HRX.out HXB.out
                  rw [hrn] at HU
                  have HU := Lib.hid HU
                  clear hz0 hm hm1 q1 q2 hd hrn hq1
                  have hk4 : (k : Int) < (xs.length : Int) := by omega
                  go_wp2_with fail
                  refine (HU.out _ _ HW.out).mono ?_
                  rintro e w9 ⟨S9, ⟨rfl, h9⟩, st9⟩
                  have H9 := Lib.hid h9
                  have ST9 := Lib.hid (ST.out.trans st9)
                  clear h9 st9 HW ST
                  go_wp2_with fail
                  go_roundw
                  case rel => exact ⟨k + 1, S9, by omega, rfl, by rw [HQ1.out]; exact H9.out, ST9.out⟩
                  case measure => first | (simp [intOf]; done) | (simp [intOf]; omega)
                · obtain rfl : k = xs.length := by omega
                  have hl0 : (encF f1 xs).length = P1.length := by rw [E0.out]
                  rw [List.take_length, hl0] at HW
                  go_wp2_with fail
                  rename_i K0 hK0 K1 hK1; clear hK0
                  go_loopw [126] (fun v wr => ∃ (k : Nat) (S' : Nat → Prop), k ≤ ys.length ∧ v = .int .i64 k ∧ Sep (Rd r A7 c7 X ⟨P1.length + (encF f2 (ys.take k)).length, 0⟩) (Row 5 .u8 (.slice A7 X.length c7) X) wr S' ∧ Step (fun _ => False) S' w wr) (fun v _ => ys.length - (intOf v).toNat)
                  case atStart => exact ⟨0, _, by omega, rfl, by simpa [encF] using HW.out, ST.out⟩
                  case round =>
                    clear HW ST
                    obtain ⟨k, S', hk, rfl, hw, hst⟩ := hrel
                    have HW := Lib.hid hw
                    have ST := Lib.hid hst
                    clear hw hst
                    by_cases hlt : k < ys.length
                    · obtain ⟨b0, o, rfl, hblt, cx⟩ := (HB.out.later (belowF ST.out)).at hlt
                      have hz0 := HRB.out (ys.getD k 0) (by simp [List.getD_eq_getElem?_getD, List.getElem?_eq_getElem hlt])
                      obtain ⟨q1, q2⟩ := encF_step f2 ys k hlt
                      have hd : X.drop (P1.length + (encF f2 (ys.take k)).length) = f2 (ys.getD k 0) ++ (encF f2 (ys.drop (k + 1)) ++ (encF f3 zs ++ (b ++ [7]))) := by
                        have e : X = (P1 ++ encF f2 (ys.take k)) ++ (f2 (ys.getD k 0) ++ (encF f2 (ys.drop (k + 1)) ++ (encF f3 zs ++ (b ++ [7])))) := by
                          rw [HX.out, E2.out, E1.out, q2]; simp only [List.append_assoc]
                        rw [e, ← List.length_append, List.drop_left]
                      obtain ⟨y, hm⟩ : ∃ y, ys.getD k 0 = y := ⟨_, rfl⟩
                      rw [hm] at cx q1 hd hz0
                      simp only [f2] at q1 hd
                      have hm1 := Bit.zig_lt hz0.1 hz0.2
                      have hrn := rnum_enc (most := 18446744073709551615) hd hm1 (by have : Bit.zig y < 18446744073709551616 := hm1; omega)
                      have hq1 : P1.length + (encF f2 (ys.take (k + 1))).length = P1.length + (encF f2 (ys.take k)).length + (enc (Bit.zig y)).length := by rw [q1, List.length_append] <;> omega
                      have HQ1 := Lib.hid hq1
                      have HU := int_fr r A7 c7 X ⟨P1.length + (encF f2 (ys.take k)).length, 0⟩ _ (Lcl.row 5 .u8 (.slice A7 X.length c7) X) HRX.out HXB.out
                      rw [hrn, Bit.zag_zig] at HU
                      have HU := Lib.hid HU
                      clear hz0 hm hm1 q1 q2 hd hrn hq1
                      have hk4 : (k : Int) < (ys.length : Int) := by omega
                      go_wp2_with fail
                      refine (HU.out _ _ HW.out).mono ?_
                      rintro e w9 ⟨S9, ⟨rfl, h9⟩, st9⟩
                      have H9 := Lib.hid h9
                      have ST9 := Lib.hid (ST.out.trans st9)
                      clear h9 st9 HW ST
                      go_wp2_with fail
                      go_roundw
                      case rel => exact ⟨k + 1, S9, by omega, rfl, by rw [HQ1.out]; exact H9.out, ST9.out⟩
                      case measure => first | (simp [intOf]; done) | (simp [intOf]; omega)
                    · obtain rfl : k = ys.length := by omega
                      have hl1 : P1.length + (encF f2 ys).length = P2.length := by rw [E1.out, List.length_append]
                      rw [List.take_length, hl1] at HW
                      go_wp2_with fail
                      rename_i K0 hK0 K1 hK1; clear hK0
                      go_loopw [137] (fun v wr => ∃ (k : Nat) (S' : Nat → Prop), k ≤ zs.length ∧ v = .int .i64 k ∧ Sep (Rd r A7 c7 X ⟨P2.length + (encF f3 (zs.take k)).length, 0⟩) (Row 5 .u8 (.slice A7 X.length c7) X) wr S' ∧ Step (fun _ => False) S' w wr) (fun v _ => zs.length - (intOf v).toNat)
                      case atStart => exact ⟨0, _, by omega, rfl, by simpa [encF] using HW.out, ST.out⟩
                      case round =>
                        clear HW ST
                        obtain ⟨k, S', hk, rfl, hw, hst⟩ := hrel
                        have HW := Lib.hid hw
                        have ST := Lib.hid hst
                        clear hw hst
                        by_cases hlt : k < zs.length
                        · obtain ⟨b0, o, rfl, hblt, cx⟩ := (HC.out.later (belowF ST.out)).at hlt
                          have hz0 := HRC.out (zs.getD k 0) (by simp [List.getD_eq_getElem?_getD, List.getElem?_eq_getElem hlt])
                          obtain ⟨q1, q2⟩ := encF_step f3 zs k hlt
                          have hd : X.drop (P2.length + (encF f3 (zs.take k)).length) = f3 (zs.getD k 0) ++ (encF f3 (zs.drop (k + 1)) ++ (b ++ [7])) := by
                            have e : X = (P2 ++ encF f3 (zs.take k)) ++ (f3 (zs.getD k 0) ++ (encF f3 (zs.drop (k + 1)) ++ (b ++ [7]))) := by
                              rw [HX.out, E2.out, q2]; simp only [List.append_assoc]
                            rw [e, ← List.length_append, List.drop_left]
                          obtain ⟨m, hm⟩ := Int.eq_ofNat_of_zero_le hz0.1
                          rw [hm] at cx q1 hd
                          simp only [f3, Int.toNat_natCast] at q1 hd
                          have hm1 : m ≤ 4294967295 := by omega
                          have hrn := rword_at hd hm1
                          have hq1 : P2.length + (encF f3 (zs.take (k + 1))).length = P2.length + (encF f3 (zs.take k)).length + 4 := by rw [q1, List.length_append, word4_len] <;> omega
                          have HQ1 := Lib.hid hq1
                          have HU := word_fr r A7 c7 X ⟨P2.length + (encF f3 (zs.take k)).length, 0⟩ _ (Lcl.row 5 .u8 (.slice A7 X.length c7) X) HRX.out HXB.out
                          rw [hrn] at HU
                          have HU := Lib.hid HU
                          clear hz0 hm hm1 q1 q2 hd hrn hq1
                          have hk4 : (k : Int) < (zs.length : Int) := by omega
                          go_wp2_with fail
                          refine (HU.out _ _ HW.out).mono ?_
                          rintro e w9 ⟨S9, ⟨rfl, h9⟩, st9⟩
                          have H9 := Lib.hid h9
                          have ST9 := Lib.hid (ST.out.trans st9)
                          clear h9 st9 HW ST
                          go_wp2_with fail
                          go_roundw
                          case rel => exact ⟨k + 1, S9, by omega, rfl, by rw [HQ1.out]; exact H9.out, ST9.out⟩
                          case measure => first | (simp [intOf]; done) | (simp [intOf]; omega)
                        · obtain rfl : k = zs.length := by omega
                          have hl2 : P2.length + (encF f3 zs).length = P3.length := by rw [E2.out, List.length_append]
                          rw [List.take_length, hl2] at HW
                          go_wp2_with fail
                          rename_i K0 hK0 K1 hK1; clear hK0
                          obtain ⟨T, U, hT, hU, hdis, hiff⟩ := HW.out
                          have STT := Lib.hid (ST.out.less (fun k hk => (hiff k).2 (.inl hk)))
                          have HRd := Lib.hid hT
                          have HR7 := Lib.hid (HRX.out _ _ hU)
                          have HNB := Lib.hid (show ∀ a, A7 = some a → ¬ T a.block ∧ a.block < wr.heap.size from fun a ha => ⟨fun q => hdis _ q (HNX.out _ _ hU a ha), (Lcl.row _ _ _ _).lt hU (HNX.out _ _ hU a ha)⟩)
                          clear hT hU hdis hiff HW ST
                          have HRB : RowKit.Hid (rbytes X ⟨P3.length, 0⟩ (b.length : Int) = (b, ⟨P3.length + b.length, 0⟩)) := Lib.hid (by
                            unfold rbytes rleft
                            simp only [if_true]
                            have hll : X.length = P3.length + b.length + 1 := HXL.out
                            rw [if_neg (by omega), Int.toNat_natCast]
                            simp only [HX.out, List.append_assoc, List.drop_left, List.take_left])
                          have HRY : RowKit.Hid (rbyte X ⟨P3.length + b.length, 0⟩ = (7, ⟨X.length, 0⟩)) := Lib.hid (by
                            have hd : X.drop (P3.length + b.length) = (7 : Int) :: [] := by rw [HX.out, ← List.length_append, List.drop_left]
                            rw [rbyte_at hd, HXL.out])
                          have HRE : RowKit.Hid (rend X ⟨X.length, 0⟩ = 0) := Lib.hid (by unfold rend; rw [if_neg (by simp)])
                          obtain ⟨GG, hGG⟩ : ∃ GG : World → Prop, GG = fun w => ∃ S2, Rd r A7 c7 X ⟨P3.length + b.length, 0⟩ w S2 ∧ ∀ k, S2 k → T k ∨ wr.heap.size ≤ k := ⟨_, rfl⟩
                          have HGE : RowKit.Hid (∀ a b, GG a → Ext a b → GG b) := Lib.hid (by rw [hGG]; rintro a b ⟨S2, h, hf⟩ e; exact ⟨S2, Ext.keep (loc_rd _ _ _ _ _) e h, hf⟩)
                          have HGM : RowKit.Hid (∀ w S2, Rd r A7 c7 X ⟨P3.length + b.length, 0⟩ w S2 → (∀ k, S2 k → T k ∨ wr.heap.size ≤ k) → GG w) := Lib.hid (by rw [hGG]; exact fun w S2 h hf => ⟨S2, h, hf⟩)
                          have HGO : RowKit.Hid (∀ w, GG w → ∃ S2, Rd r A7 c7 X ⟨P3.length + b.length, 0⟩ w S2 ∧ ∀ k, S2 k → T k ∨ wr.heap.size ≤ k) := Lib.hid (by rw [hGG]; exact fun w h => h)
                          clear hGG
                          refine wp_region_next (by kernel_rfl) ?_
                          refine next_win 0 9 Ext (RK T GG) 3 7 (RK.ext HGE.out) Ext.refl Ext.trans (RK.refl _ _) (RK.trans _ _) [[(17, none)], [(3, none)], [(147, some 1)], [(146, some 0), (148, some 2)], [(149, some 3)], [(3, none)], [(151, some 5)], [(150, some 4), (152, some 6)], [(153, some 7)]] [some 146, some 147, some 148, some 149, some 150, some 151, some 152, some 153, some 154] (by kernel_rfl) (by kernel_rfl) (by kernel_rfl) (by kernel_rfl) ?_
                          intro Nx hNx
                          -- 0: slot 146 := Op.move (t17)
                          apply relyD_const_e (by decide) (by decide); case h => (intro wr hR a' h17 K hK; go_wp2_with fail; exact Ext.refl _)
                          -- 1: slot 147 := Op.move (t3)
                          apply relyD_const_e (by decide) (by decide); case h => (intro wr hR a' h3 K hK; go_wp2_with fail; exact Ext.refl _)
                          -- 2: slot 148 := Op.call { callee := Callee.builtin Builtin.len, args := #[t147], argTypes := #[26] }
                          apply relyD_const_e (by decide) (by decide); case h => (intro wr hR a' h147 K hK; go_wp2_with fail; exact Ext.refl _)
                          -- 3: slot 149 := Op.call { callee := Callee.value (Operand.func 34), args := #[t146, t148], argTypes := #[48, 3] }
                          refine relyD_the rfl (fun v w => ∃ A', v = .slice A' b.length b.length ∧ Reads w .u8 A' b ∧ (∀ a, A' = some a → ∃ b', A7 = some b' ∧ a.block = b'.block) ∧ GG w) (fun v w w' ⟨A', e, k, n, g⟩ x => ⟨A', e, k.keep x.1 (fun a ha => by obtain ⟨b', hb, he⟩ := n a ha; rw [he]; exact (HNB.out b' hb).1), n, x.2 g⟩) ?h3 ?_
                          case h3 =>
                            intro wr hR a' h146 h148 K hK
                            have HK := Lib.hid hK
                            have hE := hR.undrew
                            have HX1 := Lib.hid hE
                            clear hK hE
                            go_wp2_with fail
                            refine (bytes_calls r A7 c7 X ⟨P3.length, 0⟩ b.length wr T (Ext.keep (loc_rd _ _ _ _ _) HX1.out HRd.out) (HX1.out.reads HR7.out) (by omega)).mono ?_
                            rintro e w2 ⟨S2, A', ⟨rfl, h2⟩, st2, hrd2, hab⟩
                            simp only [HRB.out] at h2 hrd2 ⊢
                            have g2 := HGM.out w2 S2 h2 (fun q hq => (st2.fresh q hq).imp id (fun x => Nat.le_trans HX1.out.size x))
                            have hk2 : RK T GG wr w2 := ⟨st2.keep, fun _ => g2⟩
                            have hr2 := hrd2 w2 ((HX1.out.reads HR7.out).keep st2.keep (fun a ha => (HNB.out a ha).1))
                            have HK2 := Lib.hid hk2
                            have HG2 := Lib.hid (And.intro hr2 (And.intro hab g2))
                            clear h2 st2 g2 hk2 hr2 hrd2 hab
                            go_wp2_with fail
                            exact HK.out _ _ HK2.out ⟨A', rfl, HG2.out⟩
                          -- 4: slot 150 := Op.convert 26 9 (t149)
                          apply relyD_const (by decide) (by decide)
                          case h =>
                            rintro wr hR a' v h149 ⟨A', rfl, hr, _, _⟩ K hK
                            have hcv := hr.string (P := Try.prog) Try.underlying26 Try.underlying5 Try.underlying9 b.length
                            go_wp2_with fail
                            exact Ext.refl _
                          -- 5: slot 151 := Op.move (t3)
                          apply relyD_const (by decide) (by decide); case h => (intro wr hR a' h3 K hK; go_wp2_with fail; exact Ext.refl _)
                          -- 6: slot 152 := Op.convert 26 9 (t151)
                          apply relyD_const (by decide) (by decide); case h => (intro wr hR a' h151 K hK; have hcv := (HD.out.later (belowF (STT.out.trans (S'' := T) ⟨keep_undrew hR.1, fun x hx => .inl hx⟩))).string (P := Try.prog) Try.underlying26 Try.underlying5 Try.underlying9 cd; go_wp2_with fail; exact Ext.refl _)
                          -- 7: slot 153 := Op.binOp BinOp.eql 9 (t150) (t152) 9
                          apply relyD_const (by decide) (by decide); case h => (intro wr hR a' h150 h152 K hK; go_wp2_with fail; exact Ext.refl _)
                          -- 8: slot 154 := Op.move (t153)
                          apply relyD_const (by decide) (by decide); case h => (intro wr hR a' h153 K hK; go_wp2_with fail; exact Ext.refl _)
                          refine relyD_end ?_
                          intro wr1 hR
                          simp only [ends, List.take_succ_cons, List.take_zero, List.map_cons, List.map_nil, List.cons_append, List.nil_append, ends, Act.put, List.setIfInBounds_toArray, List.set_cons_zero, List.set_cons_succ]
                          rintro v149 ⟨Ax, rfl, _, _, hgg⟩
                          refine hNx _ _ ?_
                          obtain ⟨T2, hT2, hf2⟩ := HGO.out _ hgg
                          have ST2 := Lib.hid (STT.out.trans (show Step T T2 wr wr1 from ⟨keep_undrew hR.1, hf2⟩))
                          have HRd2 := Lib.hid hT2
                          have HR72 := Lib.hid (HR7.out.keep (keep_undrew hR.1) (fun a ha => (HNB.out a ha).1))
                          have HNB2 := Lib.hid (show ∀ a, A7 = some a → ¬ T2 a.block from fun a ha q => (hf2 _ q).elim (HNB.out a ha).1 (fun x => by have := (HNB.out a ha).2; omega))
                          clear hgg hT2 hf2 hR HRd HR7 STT HNB HGE HGM HGO HD
                          obtain ⟨GG2, hGG⟩ : ∃ GG : World → Prop, GG = fun w => ∃ S2, Rd r A7 c7 X ⟨X.length, 0⟩ w S2 ∧ ∀ k, S2 k → T2 k ∨ wr1.heap.size ≤ k := ⟨_, rfl⟩
                          have HGE2 : RowKit.Hid (∀ a b, GG2 a → Ext a b → GG2 b) := Lib.hid (by rw [hGG]; rintro a b ⟨S2, h, hf⟩ e; exact ⟨S2, Ext.keep (loc_rd _ _ _ _ _) e h, hf⟩)
                          have HGM2 : RowKit.Hid (∀ w S2, Rd r A7 c7 X ⟨X.length, 0⟩ w S2 → (∀ k, S2 k → T2 k ∨ wr1.heap.size ≤ k) → GG2 w) := Lib.hid (by rw [hGG]; exact fun w S2 h hf => ⟨S2, h, hf⟩)
                          have HGO2 : RowKit.Hid (∀ w, GG2 w → ∃ S2, Rd r A7 c7 X ⟨X.length, 0⟩ w S2 ∧ ∀ k, S2 k → T2 k ∨ wr1.heap.size ≤ k) := Lib.hid (by rw [hGG]; exact fun w h => h)
                          clear hGG
                          refine next_win 9 26 Ext (RK T2 GG2) 10 1023 (RK.ext HGE2.out) Ext.refl Ext.trans (RK.refl _ _) (RK.trans _ _) [[(17, none)], [(155, some 9)], [(156, some 10)], [(154, none), (157, some 11)], [(158, some 12)], [(17, none)], [(160, some 14), (156, some 10)], [(10, none)], [(162, some 16)], [(161, some 15), (163, some 17)], [(159, some 13), (164, some 18)], [(165, some 19)], [(17, none)], [(167, some 21), (156, some 10)], [(168, some 22)], [(166, some 20), (169, some 23)], [(170, some 24)]] [none, none, none, none, none, none, none, none, none, some 155, some 156, some 157, some 158, some 159, some 160, some 161, some 162, some 163, some 164, some 165, some 166, some 167, some 168, some 169, some 170, some 8] (by kernel_rfl) (by kernel_rfl) (by kernel_rfl) (by kernel_rfl) ?_
                          intro Nx hNx
                          -- 9: slot 155 := Op.move (t17) GUARD 8 true
                          apply relyD_const_in_e (by decide) (by decide) _ (by kernel_rfl); case h => (intro wr hR a' h17 K hK; go_wp2_with fail; exact Ext.refl _)
                          -- 10: slot 156 := Op.call { callee := Callee.value (Operand.func 43), args := #[t155], argTypes := #[48] } GUARD 8 true
                          refine relyD_the_in rfl (fun v w => v = .int .u8 7 ∧ GG2 w) (fun _ _ _ h r => ⟨h.1, r.2 h.2⟩) (by kernel_rfl) ?h10 ?_
                          case h10 =>
                            intro wr hR a' h155 K hK
                            have HK := Lib.hid hK
                            have HX1 := Lib.hid hR
                            clear hK
                            go_wp2_with fail
                            refine (byte_calls r A7 c7 X ⟨P3.length + b.length, 0⟩ wr T2 (Ext.keep (loc_rd _ _ _ _ _) HX1.out HRd2.out) (HX1.out.reads HR72.out)).mono ?_
                            rintro e w2 ⟨S2, ⟨rfl, h2⟩, st2⟩
                            simp only [HRY.out] at h2 ⊢
                            have g2 := HGM2.out w2 S2 h2 (fun q hq => (st2.fresh q hq).imp id (fun x => Nat.le_trans HX1.out.size x))
                            have hk2 : RK T2 GG2 wr w2 := ⟨st2.keep, fun _ => g2⟩
                            have HK2 := Lib.hid hk2
                            have HG2 := Lib.hid g2
                            clear h2 st2 g2 hk2
                            go_wp2_with fail
                            exact HK.out _ _ HK2.out ⟨rfl, HG2.out⟩
                          -- 11: slot 157 := Op.binOp BinOp.eql 5 (t156) (Operand.const (Value.int IntKind.u8 7)) 5 GUARD 8 true
                          apply relyD_const_in (by decide) (by decide) _ (by kernel_rfl); case h => (rintro wr hR a' v h156 ⟨rfl, _⟩ K hK; go_wp2_with fail; exact Ext.refl _)
                          -- 12: slot 158 := Op.pick (t154) (t157) (Operand.const (Value.bool false))
                          apply relyD_const (by decide) (by decide); case h => (intro wr hR a' h154 h157 K hK; go_wp2_with fail; exact Ext.refl _)
                          -- 13: slot 159 := Op.move (t158)
                          apply relyD_const (by decide) (by decide); case h => (intro wr hR a' h158 K hK; go_wp2_with fail; exact Ext.refl _)
                          -- 14: slot 160 := Op.move (t17) GUARD 13 true
                          apply relyD_const_in (by decide) (by decide) _ (by kernel_rfl); case h => (intro wr hR a' h17 K hK; go_wp2_with fail; exact Ext.refl _)
                          -- 15: slot 161 := Op.call { callee := Callee.value (Operand.func 41), args := #[t160], argTypes := #[48] } GUARD 13 true
                          apply relyD_const_in (by decide) (by decide) _ (by kernel_rfl)
                          case h =>
                            rintro wr hR a' h160 v h156 ⟨rfl, hgg⟩ K hK
                            obtain ⟨S2, h2, _⟩ := HGO2.out _ hgg
                            have HL2 := Lib.hid h2
                            clear hgg h2
                            go_wp2_with fail
                            refine (at_is r A7 c7 X ⟨X.length, 0⟩ wr S2 HL2.out).mono ?_
                            rintro e w2 ⟨rfl, rfl⟩
                            go_wp2_with fail
                            exact Ext.refl _
                          -- 16: slot 162 := Op.move (t10) GUARD 13 true
                          apply relyD_const_in (by decide) (by decide) _ (by kernel_rfl); case h => (intro wr hR a' h10 K hK; go_wp2_with fail; exact Ext.refl _)
                          -- 17: slot 163 := Op.call { callee := Callee.builtin Builtin.len, args := #[t162], argTypes := #[26] } GUARD 13 true
                          apply relyD_const_in (by decide) (by decide) _ (by kernel_rfl); case h => (intro wr hR a' h162 K hK; go_wp2_with fail; exact Ext.refl _)
                          -- 18: slot 164 := Op.binOp BinOp.eql 3 (t161) (t163) 3 GUARD 13 true
                          apply relyD_const_in (by decide) (by decide) _ (by kernel_rfl); case h => (intro wr hR a' h161 h163 K hK; go_wp2_with fail; exact Ext.refl _)
                          -- 19: slot 165 := Op.pick (t159) (t164) (Operand.const (Value.bool false))
                          apply relyD_const (by decide) (by decide); case h => (intro wr hR a' h159 h164 K hK; go_wp2_with fail; exact Ext.refl _)
                          -- 20: slot 166 := Op.move (t165)
                          apply relyD_const (by decide) (by decide); case h => (intro wr hR a' h165 K hK; go_wp2_with fail; exact Ext.refl _)
                          -- 21: slot 167 := Op.move (t17) GUARD 20 true
                          apply relyD_const_in (by decide) (by decide) _ (by kernel_rfl); case h => (intro wr hR a' h17 K hK; go_wp2_with fail; exact Ext.refl _)
                          -- 22: slot 168 := Op.call { callee := Callee.value (Operand.func 33), args := #[t167], argTypes := #[48] } GUARD 20 true
                          apply relyD_const_in (by decide) (by decide) _ (by kernel_rfl)
                          case h =>
                            rintro wr hR a' h167 v h156 ⟨rfl, hgg⟩ K hK
                            obtain ⟨S2, h2, _⟩ := HGO2.out _ hgg
                            have HL2 := Lib.hid h2
                            clear hgg h2
                            go_wp2_with fail
                            refine (end_is r A7 c7 X ⟨X.length, 0⟩ wr S2 HL2.out).mono ?_
                            rintro e w2 ⟨rfl, nq, rfl⟩
                            rw [HRE.out]
                            go_wp2_with fail
                            exact ext_drewN _ _
                          -- 23: slot 169 := Op.binOp BinOp.eql 44 (t168) (Operand.const (Value.int IntKind.i64 0)) 44 GUARD 20 true
                          apply relyD_const_in (by decide) (by decide) _ (by kernel_rfl); case h => (intro wr hR a' h168 K hK; go_wp2_with fail; exact Ext.refl _)
                          -- 24: slot 170 := Op.pick (t166) (t169) (Operand.const (Value.bool false))
                          apply relyD_const (by decide) (by decide); case h => (intro wr hR a' h166 h169 K hK; go_wp2_with fail; exact Ext.refl _)
                          -- 25: slot 8 := Op.assign (t170)
                          apply relyD_const (by decide) (by decide); case h => (intro wr hR a' h170 K hK; go_wp2_with fail; exact Ext.refl _)
                          refine relyD_end ?_
                          intro wr2 hR
                          simp only [ends, List.take_succ_cons, List.take_zero, List.map_cons, List.map_nil, List.cons_append, List.nil_append, ends, Act.put, List.setIfInBounds_toArray, List.set_cons_zero, List.set_cons_succ]
                          rintro v156 ⟨rfl, _⟩
                          refine hNx _ _ ?_
                          refine next_done rfl ?_
                          simp only [Act.put, List.setIfInBounds_toArray, List.set_cons_zero, List.set_cons_succ]
                          have HF := Lib.hid (belowF (ST2.out.trans (S'' := T2) ⟨hR.1, fun x hx => .inl hx⟩))
                          clear hR
                          go_wp2_with fail
                          go_ret
                          exact ⟨rfl, HF.out⟩
end Go.Proofs.Ytpgnlpcnancplaa.Wire
