/- The law HllAbout, at every input. -/
import Derived.Test.YtolhhbnamldghaaFl
import Derived.Test.YtolhhbnamldghaaKd
import Derived.Test.YtolhhbnamldghaaPureHllAdds
namespace Go.Proofs.Ytolhhbnamldghaa.Hll
open Go.RowKit Go.Proofs.Ytolhhbnamldghaa.Own Go.Proofs.Ytolhhbnamldghaa.Rely Go.Proofs.Ytolhhbnamldghaa.HllM Go.Proofs.YtolhhbnamldghaaW.PrintWords
attribute [local go_sem] max_ints min_ints

theorem half_step : ∀ j : Fin 63, Ieee.double.div (invF (j.val : Int)) 4611686018427387904 = some (invF ((j.val + 1 : Nat) : Int)) := by decide +kernel
theorem inv_zero : invF 0 = 4607182418800017408 := by decide +kernel
theorem inv_min (x : Int) (h : 0 ≤ x) {m : Nat} (hm : min x 63 = m) : invF (m : Int) = invF x := by unfold invF; rw [hm, show min (m : Int) 63 = m by omega]

set_option maxHeartbeats 8000000 in
set_option maxRecDepth 20000 in
theorem about_wf (a : Int) (A : Option Addr) (c : Nat) (l : List Int) (B : Option Addr) (d : Nat) (raw : List Int) (w : World) (ha : (Lit.int .u8 a).wf = true) (h : ArgI w .u64 A c l) (h' : ArgI w .u8 B d raw) :
    Calls Try.prog 7 #[.int .u8 a, .slice A l.length c, .slice B raw.length d] w fun e w' => e = .returned (.bool true) ∧ Below w.heap.size w w' := by
  have ha' := wf_u8 ha
  have HA := Lib.hid h
  have HB := Lib.hid h'.reads
  have HUA := Lib.hid (show ∀ x ∈ l, IsHash x from fun x hx => by
    have q : (decide (0 ≤ x) && decide (x ≤ 18446744073709551615)) = true := h.rng x hx
    simp at q
    exact ⟨q.1, by omega⟩)
  have HUB := Lib.hid (show IsBytes raw from fun x hx => by have := wf_u8 (h'.rng x hx); omega)
  clear h h' ha
  go_enter Try.func7, Try.ntmps7
  go_wp2_with fail
  refine (awake_c w).mono ?_
  rintro e w1 ⟨rfl, hb1⟩
  have HX1 := Lib.hid (show Ext w w1 from hb1)
  clear hb1
  by_cases hla : 50 < l.length
  · have g1 : decide ((50 : Int) < (l.length : Int)) = true := by simp <;> omega
    go_wp2_with fail
    go_ret
    exact ⟨rfl, HX1.out⟩
  have g1 : decide ((50 : Int) < (l.length : Int)) = false := by simp <;> omega
  by_cases hlb : 300 < raw.length
  · have g2 : decide ((300 : Int) < (raw.length : Int)) = true := by simp <;> omega
    go_wp2_with fail
    go_ret
    exact ⟨rfl, HX1.out⟩
  have g2 : decide ((300 : Int) < (raw.length : Int)) = false := by simp <;> omega
  obtain ⟨p, hp⟩ : ∃ p : Nat, 4 + a % 5 = p := ⟨(4 + a % 5).toNat, by omega⟩
  obtain ⟨hf, h4, h8⟩ := Pure.hll_f a ha'.1 l HUA.out (by omega) (l.length + 1) (Nat.lt_succ_self _) p hp
  have HR0 := Lib.hid (Pure.fold_nonneg (l.map Pure.hsh) (List.replicate (2 ^ p) 0) (fun x hx => by obtain ⟨_, rfl⟩ := List.mem_replicate.1 hx; omega) h8)
  have HRL := Lib.hid (foldl_regs (p := p) (l.map Pure.hsh) (List.replicate (2 ^ p) 0) (by simp [Regs]))
  generalize (l.map Pure.hsh).foldl (upd p) (List.replicate (2 ^ p) 0) = R at hf HR0 HRL
  have HF := Lib.hid hf
  clear hf
  have hpw : 2 ^ p ≤ 256 := Nat.le_trans (Nat.pow_le_pow_right (by omega) h8) (by decide)
  go_wp2_with fail
  refine (PHllAdds.herbariumlaw13_Hll.calls (l.length + 1) a A c l p R w1 (KdX.C_of_reads (by omega) (HX1.out.reads HA.out.reads)) HA.out.le HF.out).mono ?_
  rintro e w2 ⟨v, rfl, hv, hb2⟩
  obtain ⟨A1, c1, rfl, _, hC⟩ := Kd.R_reads hv
  have HA1 := Lib.hid (KdX.reads_of_C hC)
  have HX2 := Lib.hid (Ext.trans _ _ _ HX1.out hb2)
  have hRl : R.length ≤ 256 := by have := HRL.out; unfold Regs at this; omega
  clear hv hC hb2 HRL HF hpw
  have hE5 : Ext w2 (w2.alloc (.cells #[.int .i64 p, .slice A1 R.length c1, .int .i64 4, .slice B raw.length d] 35)) := (Below.refl _ _).alloc (Nat.le_refl _) _
  have c0 : (w2.alloc (.cells #[.int .i64 p, .slice A1 R.length c1, .int .i64 4, .slice B raw.length d] 35)).cell? ⟨w2.heap.size, 0, none⟩ = some (.int .i64 p) := by rw [cell_of_row _ _ _ _ _ _ (heap_alloc_new w2 _)]; rfl
  have c1' : (w2.alloc (.cells #[.int .i64 p, .slice A1 R.length c1, .int .i64 4, .slice B raw.length d] 35)).cell? ⟨w2.heap.size, 1, none⟩ = some (.slice A1 R.length c1) := by rw [cell_of_row _ _ _ _ _ _ (heap_alloc_new w2 _)]; rfl
  have c2 : (w2.alloc (.cells #[.int .i64 p, .slice A1 R.length c1, .int .i64 4, .slice B raw.length d] 35)).cell? ⟨w2.heap.size, 2, none⟩ = some (.int .i64 4) := by rw [cell_of_row _ _ _ _ _ _ (heap_alloc_new w2 _)]; rfl
  have c3 : (w2.alloc (.cells #[.int .i64 p, .slice A1 R.length c1, .int .i64 4, .slice B raw.length d] 35)).cell? ⟨w2.heap.size, 3, none⟩ = some (.slice B raw.length d) := by rw [cell_of_row _ _ _ _ _ _ (heap_alloc_new w2 _)]; rfl
  have HA5 := Lib.hid (HA1.out.later hE5)
  have HB5 := Lib.hid ((HX2.out.reads HB.out).later hE5)
  have HX5 := Lib.hid (Ext.trans _ _ _ HX2.out hE5)
  clear hE5 HA1
  go_wp2_with fail
  generalize w2.alloc (.cells #[.int .i64 p, .slice A1 R.length c1, .int .i64 4, .slice B raw.length d] 35) = w5 at c0 c1' c2 c3 HA5 HB5 HX5 ⊢
  generalize w2.heap.size = g at c0 c1' c2 c3 ⊢
  have HEL : RowKit.Hid (∀ i : Nat, i < 2 → ∃ (q : Int) (AX : Option Addr) (cX : Nat) (X : List Int), w5.cell? ⟨g, i * 2, none⟩ = some (.int .i64 q) ∧ w5.cell? ⟨g, i * 2 + 1, none⟩ = some (.slice AX X.length cX) ∧ Reads w5 .u8 AX X ∧ IsBytes X ∧ X.length ≤ 300) := Lib.hid (by
    intro i hi
    match i, hi with
    | 0, _ => exact ⟨p, A1, c1, R, c0, c1', HA5.out, fun x hx => by have := HR0.out x hx; omega, by omega⟩
    | 1, _ => exact ⟨4, B, d, raw, c2, c3, HB5.out, HUB.out, by omega⟩)
  clear c0 c1' c2 c3 HA5 HB5 HA HB HUA HUB HR0 HX2
  go_loopw [33] (fun v wr => ∃ (i : Nat), i ≤ 2 ∧ v = .int .i64 i ∧ Ext w5 wr) (fun v _ => 2 - (intOf v).toNat)
  case atStart => exact ⟨0, by omega, rfl, Ext.refl _⟩
  case round =>
    obtain ⟨i, hi, rfl, hx⟩ := hrel
    have HX := Lib.hid hx
    clear hx
    by_cases hlt2 : i < 2
    · obtain ⟨q, AX, cX, X, cx0, cx1, hrx, hux, hlx⟩ := HEL.out i hlt2
      have cx0' := Ext.cell HX.out cx0
      have cx1' := Ext.cell HX.out cx1
      have HRX := Lib.hid (HX.out.reads hrx)
      have HUX := Lib.hid hux
      clear cx0 cx1 hrx hux
      have hi4 : (i : Int) < 2 := by omega
      go_wp2_with fail
      have d0 : (wr.alloc (.cells #[.int .i64 q, .slice AX X.length cX] 35)).cell? ⟨wr.heap.size, 0, none⟩ = some (.int .i64 q) := by rw [cell_of_row _ _ _ _ _ _ (heap_alloc_new wr _)]; rfl
      have d1 : (wr.alloc (.cells #[.int .i64 q, .slice AX X.length cX] 35)).cell? ⟨wr.heap.size, 1, none⟩ = some (.slice AX X.length cX) := by rw [cell_of_row _ _ _ _ _ _ (heap_alloc_new wr _)]; rfl
      have hE6 : Ext wr (wr.alloc (.cells #[.int .i64 q, .slice AX X.length cX] 35)) := (Below.refl _ _).alloc (Nat.le_refl _) _
      have HR6 := Lib.hid (HRX.out.later hE6)
      have HX6 := Lib.hid (Ext.trans _ _ _ HX.out hE6)
      clear hE6 HRX HX cx0' cx1'
      generalize wr.alloc (.cells #[.int .i64 q, .slice AX X.length cX] 35) = w6 at d0 d1 HR6 HX6 ⊢
      generalize wr.heap.size = g6 at d0 d1 ⊢
      obtain ⟨T, hT, hTi, hTp⟩ := Fl.sum_ok X 0 (fun x hx => (HUX.out x hx).1) (by omega)
      have HT := Lib.hid hT
      have HTP := Lib.hid hTp
      clear hT hTp
      have HTI := Lib.hid hTi
      clear hTi
      go_loopw [9, 40] (fun s v wr => ∃ (k b : Nat), k ≤ X.length ∧ v = .int .i64 k ∧ s = .float .f64 b ∧ wr = w6 ∧ sumF b (X.drop k) = some T) (fun _ v _ => X.length - (intOf v).toNat)
      case atStart => exact ⟨0, 0, by omega, rfl, rfl, rfl, HT.out⟩
      case round =>
        obtain ⟨k, b, hk, rfl, rfl, rfl, hs⟩ := hrel
        have HS := Lib.hid hs
        clear hs
        by_cases hlt3 : k < X.length
        · obtain ⟨b0, o, rfl, hblt, cx⟩ := HR6.out k hlt3
          have hxk : 0 ≤ X.getD k 0 ∧ X.getD k 0 ≤ 255 := HUX.out _ (by simp [List.getD_eq_getElem?_getD, List.getElem?_eq_getElem hlt3])
          have hdr : X.drop k = X.getD k 0 :: X.drop (k + 1) := by rw [List.drop_eq_getElem_cons hlt3]; simp [List.getD_eq_getElem?_getD, List.getElem?_eq_getElem hlt3]
          have hs := HS.out
          rw [hdr] at hs
          obtain ⟨x, hx⟩ : ∃ x, X.getD k 0 = x := ⟨_, rfl⟩
          rw [hx] at cx hxk hs
          obtain ⟨b', hb', hs'⟩ := Option.bind_eq_some_iff.1 (show (stepF b x).bind (fun s' => sumF s' (X.drop (k + 1))) = some T from hs)
          have HS' := Lib.hid hs'
          have hlti : (k : Int) < (X.length : Int) := by omega
          obtain ⟨m, hm⟩ : ∃ m : Nat, min x 63 = m := ⟨(min x 63).toNat, by omega⟩
          have hm63 : m ≤ 63 := by omega
          have HIM := Lib.hid (inv_min x hxk.1 hm)
          have ha : ∀ W, (binOp .add 55 (.float .f64 b) (.float .f64 (invF x))).run Try.prog W = .ok (.float .f64 b') W := fun W => run_add _ _ _ _ hb' W
          have HADD := Lib.hid ha
          clear hx hs hs' hb' hdr HS ha
          go_wp2_with fail
          rename_i J0 hJ0
          go_loopw [12, 47] (fun xx v w7 => ∃ (n : Nat), n ≤ m ∧ v = .int .i64 n ∧ xx = .float .f64 (invF (n : Int)) ∧ w7 = wr) (fun _ v _ => m - (intOf v).toNat)
          case atStart => exact ⟨0, by omega, rfl, by rw [show ((0 : Nat) : Int) = 0 from rfl, inv_zero], rfl⟩
          case round =>
            obtain ⟨n, hn, rfl, rfl, rfl⟩ := hrel
            by_cases hnm : n < m
            · have hst := half_step ⟨n, by omega⟩
              have hd : ∀ W, (binOp .quo 55 (.float .f64 (invF (n : Int))) (.float .f64 4611686018427387904)).run Try.prog W = .ok (.float .f64 (invF ((n + 1 : Nat) : Int))) W := fun W => run_quo _ _ _ _ hst W
              have hnm4 : (n : Int) < (m : Int) := by omega
              clear hst
              go_wp2_with fail
              go_roundw
              case rel => exact ⟨n + 1, by omega, by go_num, rfl, trivial⟩
              case measure => simp [intOf]; omega
            · obtain rfl : n = m := by omega
              rw [HIM.out]
              have ha := HADD.out
              go_wp2_with fail
              go_roundw
              case rel => exact ⟨k + 1, b', by omega, by go_num, rfl, trivial, HS'.out⟩
              case measure => simp [intOf]; omega
        · obtain rfl : k = X.length := by omega
          obtain rfl : b = T := by have := HS.out; rw [List.drop_length] at this; exact Option.some.inj this
          by_cases h0 : X.length = 0
          · obtain rfl : X = [] := List.eq_nil_of_length_eq_zero h0
            obtain rfl : b = 0 := by have := HT.out; exact (Option.some.inj this).symm
            have hR := Fl.about0
            have hlz : decide ((0 : Int) < (([] : List Int).length : Int)) = false := by decide
            go_wp2_with fail
            refine (about_c q AX cX [] wr HR6.out HUX.out (by decide) 0 0 HT.out hR).mono ?_
            rintro e w8 ⟨rfl, hb8⟩
            have HX8 := Lib.hid (Ext.trans _ _ _ HX6.out hb8)
            have he : (FloatKind.f64.format.order 0 0 == some Ordering.eq) = true := by decide +kernel
            clear hb8 hR
            go_wp2_with fail
            go_roundw
            case rel => exact ⟨i + 1, by omega, by go_num, HX8.out⟩
            case measure => simp [intOf]; omega
          · obtain ⟨x1, x2, r, h1, h2, h3, hR, hri⟩ := Fl.about_ok (n := X.length) (by omega) (by omega) HTI.out (HTP.out (by intro e; rw [e] at h0; exact h0 rfl))
            have e1 : ∀ W, (binOp .mul 55 (.float .f64 4604480259023595110) (.float .f64 (floatOfInt .f64 X.length))).run Try.prog W = .ok (.float .f64 x1) W := fun W => run_mul _ _ _ _ h1 W
            have e2 : ∀ W, (binOp .quo 55 (.float .f64 (floatOfInt .f64 X.length)) (.float .f64 b)).run Try.prog W = .ok (.float .f64 x2) W := fun W => run_quo _ _ _ _ h2 W
            have e3 : ∀ W, (binOp .mul 55 (.float .f64 x1) (.float .f64 x2)).run Try.prog W = .ok (.float .f64 r) W := fun W => run_mul _ _ _ _ h3 W
            have hlz : decide ((0 : Int) < (X.length : Int)) = true := by simp; omega
            have HRR := Lib.hid hR
            have HRI := Lib.hid (Fl.order_self hri)
            clear h1 h2 h3 hR hri HTP HTI
            go_wp2_with fail
            refine (about_c q AX cX X wr HR6.out HUX.out (by omega) b r HT.out HRR.out).mono ?_
            rintro e w8 ⟨rfl, hb8⟩
            have HX8 := Lib.hid (Ext.trans _ _ _ HX6.out hb8)
            have he : (FloatKind.f64.format.order r r == some Ordering.eq) = true := HRI.out
            have he2 : (FloatKind.f64.format.order r r != some Ordering.eq) = false := by rw [bne, he]; rfl
            clear hb8
            go_wp2_with fail
            go_roundw
            case rel => exact ⟨i + 1, by omega, by go_num, HX8.out⟩
            case measure => simp [intOf]; omega
    · obtain rfl : i = 2 := by omega
      have HXX := Lib.hid (Ext.trans _ _ _ HX5.out HX.out)
      go_wp2_with fail
      go_ret
      exact ⟨rfl, HXX.out⟩
end Go.Proofs.Ytolhhbnamldghaa.Hll
