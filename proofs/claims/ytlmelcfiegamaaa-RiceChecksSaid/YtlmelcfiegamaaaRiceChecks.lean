/- The law RiceChecks, at every input. -/
import Derived.Test.YtlmelcfiegamaaaRiceAwk
namespace Go.Proofs.Ytlmelcfiegamaaa.Rice
open Go.RowKit Go.Proofs.Ytlmelcfiegamaaa.Own Go.Proofs.Ytlmelcfiegamaaa.Rely
attribute [local go_sem] max_ints min_ints

theorem info_u64 : (Try.prog.info? 37).map (fun i => (i.zero, i.size, i.bytes)) = some (some (.int .u64 0), 1, 8) := by kernel_rfl
theorem Row.reads' {e : TypeId} {k : IntKind} {A : Option Addr} {n c : Nat} {xs : List Int} {w : World} {S : Nat → Prop} (h : Row e k (.slice A n c) xs w S) : Reads w k A xs := by
  obtain ⟨A2, c2, e2, _, h8, _⟩ := h.reads
  injection e2 with e3
  rw [e3]; exact h8
/-- Whether the first k numbers rise. -/
def wantR (x : List Int) (k : Nat) : Int := if (List.range (k - 1)).all (fun i => x.getD i 0 < x.getD (i + 1) 0) then 0 else 8
theorem wantR_check {x : List Int} (h : x.length ≤ 4096) : wantR x x.length = checkR x := by
  unfold wantR checkR; rw [if_neg (show ¬ 4096 < x.length by omega)]
theorem wantR_one (x : List Int) : wantR x 1 = 0 := rfl
theorem wantR_step (x : List Int) (q : Nat) : wantR x (q + 2) = if x.getD q 0 < x.getD (q + 1) 0 then wantR x (q + 1) else 8 := by
  unfold wantR
  rw [show q + 2 - 1 = q + 1 by omega, show q + 1 - 1 = q by omega, List.range_succ, List.all_append]
  by_cases h : x.getD q 0 < x.getD (q + 1) 0
  · rw [if_pos h]
    have : ([q].all fun i => decide (x.getD i 0 < x.getD (i + 1) 0)) = true := by simpa using h
    rw [this, Bool.and_true]
  · rw [if_neg h]
    have : ([q].all fun i => decide (x.getD i 0 < x.getD (i + 1) 0)) = false := by simpa using h
    rw [this, Bool.and_false]; rfl
theorem checkR_no7 {x : List Int} (h : x.length ≤ 4096) : checkR x ≠ 7 := by
  unfold checkR; rw [if_neg (show ¬ 4096 < x.length by omega)]; split <;> decide
theorem wantR_end {x : List Int} {k : Nat} (h4 : x.length ≤ 4096) (h : x.length ≤ k) (hk : k ≤ x.length ∨ k = 1) : wantR x k = checkR x := by
  rw [← wantR_check h4]
  rcases hk with hk | rfl
  · rw [show k = x.length by omega]
  · unfold wantR; rw [show x.length - 1 = 0 by omega]
theorem checkR_cases (x : List Int) : checkR x = 0 ∨ checkR x = 7 ∨ checkR x = 8 := by
  unfold checkR; split
  · simp
  · split <;> simp

set_option maxHeartbeats 8000000 in
set_option maxRecDepth 20000 in
theorem checks_wf (A : Option Addr) (c : Nat) (l : List Int) (B : Option Addr) (d : Nat) (sm : List Int) (w : World) (h : ArgI w .u64 A c l) (h' : ArgI w .u8 B d sm) :
    Calls Try.prog 4 #[.slice A l.length c, .slice B sm.length d] w fun e w' => e = .returned (.bool true) ∧ Below w.heap.size w w' := by
  have HA := Lib.hid h.reads
  have HB := Lib.hid h'.reads
  have HUA := Lib.hid (show U64s l from fun x hx => by
    have q : (decide (0 ≤ x) && decide (x ≤ 18446744073709551615)) = true := h.rng x hx
    simpa using q)
  have HUB := Lib.hid (show ∀ x ∈ sm, 0 ≤ x ∧ x ≤ 255 from fun x hx => wf_u8 (h'.rng x hx))
  clear h h'
  go_enter Try.func4, Try.ntmps4
  go_wp2_with fail
  refine (awake5 w).mono ?_
  rintro e w1 ⟨rfl, hb1⟩
  have HX1 := Lib.hid (show Ext w w1 from hb1)
  clear hb1
  by_cases hla : 50 < l.length
  · have g1 : decide ((50 : Int) < (l.length : Int)) = true := by simp <;> omega
    go_wp2_with fail
    go_ret
    exact ⟨rfl, HX1.out⟩
  have g1 : decide ((50 : Int) < (l.length : Int)) = false := by simp <;> omega
  by_cases hlb : 50 < sm.length
  · have g2 : decide ((50 : Int) < (sm.length : Int)) = true := by simp <;> omega
    go_wp2_with fail
    go_ret
    exact ⟨rfl, HX1.out⟩
  have g2 : decide ((50 : Int) < (sm.length : Int)) = false := by simp <;> omega
  have hna : l.length ≤ 50 := by omega
  have hnb : sm.length ≤ 50 := by omega
  have HRN := Lib.hid (Row.nil 37 .u64 w1)
  go_wp2_with fail
  go_loopw [5, 26] (fun v i wr => ∃ (k : Nat) (S' : Nat → Prop) (An : Option Addr) (cn : Nat), k ≤ sm.length ∧ i = .int .i64 k ∧ v = .slice An (sm.take k).length cn ∧ Row 37 .u64 (.slice An (sm.take k).length cn) (sm.take k) wr S' ∧ Step (fun _ => False) S' w wr) (fun _ i _ => sm.length - (intOf i).toNat)
  case atStart => exact ⟨0, _, none, 0, by omega, rfl, rfl, HRN.out, ⟨Keep.of_below HX1.out, fun _ q => .inl q⟩⟩
  case round =>
    obtain ⟨k, S', An, cn, hk, rfl, rfl, hw, hst⟩ := hrel
    have HW := Lib.hid hw
    have ST := Lib.hid hst
    clear hw hst
    by_cases hlt : k < sm.length
    · obtain ⟨b, o, rfl, hblt, cx⟩ := (HB.out.later (ST.out.keep.below (Nat.le_refl _) (fun _ _ x => x))).at hlt
      have hz0 := HUB.out (sm.getD k 0) (by simp [List.getD_eq_getElem?_getD, List.getElem?_eq_getElem hlt])
      have HT := Lib.hid (Wire.take_snoc sm k hlt).1
      obtain ⟨m, hm⟩ : ∃ m, sm.getD k 0 = m := ⟨_, rfl⟩
      rw [hm] at cx hz0 HT
      clear hm
      have hk4 : (k : Int) < (sm.length : Int) := by omega
      generalize sm.take k = P at HW HT ⊢
      have hP : P.length ≤ 50 := by have := congrArg List.length HT.out; simp at this; omega
      go_wp2_with (at_builtin; go_loud (refine append_lit _ 37 rfl _ _ 41 rfl .u64 8 Try.underlying41 info_u64 (by decide) _ P [m] 1 1 rfl rfl rfl rfl Lcl.emp (Sep.emp_right HW.out) (by simp; omega) ?_); intro A' c' w' S2 h' st'; have H' := Lib.hid (Sep.left_of_emp h'); have ST' := Lib.hid (ST.out.trans st'); clear h' st')
      go_roundw
      case rel =>
        exact ⟨k + 1, S2, A', c', by omega, by go_num, by rw [HT.out, List.length_append]; rfl, by rw [HT.out, List.length_append]; exact H'.out, ST'.out⟩
      case measure => simp [intOf]; omega
    · obtain rfl : k = sm.length := by omega
      rw [List.take_of_length_le (Nat.le_refl _)] at HW ⊢
      have HN := Lib.hid (Row.reads' HW.out)
      have HX2 := Lib.hid (show Ext w wr from ST.out.keep.below (Nat.le_refl _) (fun _ _ x => x))
      have HU2 := Lib.hid (show U64s sm from fun x hx => by have := HUB.out x hx; omega)
      clear HW ST HB
      have hE5 : Ext wr (wr.alloc (.cells #[.slice A l.length c, .slice An sm.length cn] 41)) := (Below.refl _ _).alloc (Nat.le_refl _) _
      have c0 : (wr.alloc (.cells #[.slice A l.length c, .slice An sm.length cn] 41)).cell? ⟨wr.heap.size, 0, none⟩ = some (.slice A l.length c) := by rw [cell_of_row _ _ _ _ _ _ (heap_alloc_new wr _)]; rfl
      have c1 : (wr.alloc (.cells #[.slice A l.length c, .slice An sm.length cn] 41)).cell? ⟨wr.heap.size, 1, none⟩ = some (.slice An sm.length cn) := by rw [cell_of_row _ _ _ _ _ _ (heap_alloc_new wr _)]; rfl
      have HA5 := Lib.hid ((HX2.out.reads HA.out).later hE5)
      have HN5 := Lib.hid (HN.out.later hE5)
      have HX5 := Lib.hid (Ext.trans _ _ _ HX2.out hE5)
      clear hE5 HN HX2
      go_wp2_with fail
      generalize wr.alloc (.cells #[.slice A l.length c, .slice An sm.length cn] 41) = w5 at c0 c1 HA5 HN5 HX5 ⊢
      generalize wr.heap.size = g at c0 c1 ⊢
      have HEL : RowKit.Hid (∀ i : Nat, i < 2 → ∃ AX cX X, w5.cell? ⟨g, i, none⟩ = some (.slice AX (List.length X) cX) ∧ Reads w5 .u64 AX X ∧ U64s X ∧ X.length ≤ 50) := Lib.hid (by
        intro i hi
        match i, hi with
        | 0, _ => exact ⟨A, c, l, c0, HA5.out, HUA.out, hna⟩
        | 1, _ => exact ⟨An, cn, sm, c1, HN5.out, HU2.out, hnb⟩)
      clear c0 c1 HA5 HN5 HA HUA HUB HU2
      rename_i K0 hK0 K1 hK1
      clear hK0
      go_loopw [40] (fun v wr => ∃ (i : Nat), i ≤ 2 ∧ v = .int .i64 i ∧ Ext w5 wr) (fun v _ => 2 - (intOf v).toNat)
      case atStart => exact ⟨0, by omega, rfl, Ext.refl _⟩
      case round =>
        obtain ⟨i, hi, rfl, hx⟩ := hrel
        have HX := Lib.hid hx
        clear hx
        by_cases hlt2 : i < 2
        · obtain ⟨AX, cX, X, cx, hrx, hux, hlx⟩ := HEL.out i hlt2
          have cx' := Ext.cell HX.out cx
          have HRX := Lib.hid (HX.out.reads hrx)
          have HUX := Lib.hid hux
          clear cx hrx hux
          have hi4 : (i : Int) < 2 := by omega
          go_wp2_with fail
          rename_i J0 hJ0
          go_loopw [10, 11] (fun want v wr2 => ∃ (k : Nat), 1 ≤ k ∧ (k ≤ X.length ∨ k = 1) ∧ v = .int .i64 k ∧ want = .int .i64 (wantR X k) ∧ Ext wr wr2) (fun _ v _ => X.length - (intOf v).toNat)
          case atStart => exact ⟨1, Nat.le_refl _, .inr rfl, rfl, rfl, Ext.refl _⟩
          case round =>
            obtain ⟨k, hk, hkx, rfl, rfl, hx2⟩ := hrel
            have HX2 := Lib.hid hx2
            clear hx2
            by_cases hlt3 : k < X.length
            · obtain ⟨q, rfl⟩ : ∃ q, k = q + 1 := ⟨k - 1, by omega⟩
              obtain ⟨b, o, rfl, hbl, cx⟩ := HX2.out.reads HRX.out (q + 1) hlt3
              obtain ⟨b', o', e, _, cy⟩ := HX2.out.reads HRX.out q (by omega)
              injection e with e
              injection e with e1 e2 _
              subst e1 e2
              have HWS := Lib.hid (wantR_step X q)
              obtain ⟨x, hx⟩ : ∃ x, X.getD (q + 1) 0 = x := ⟨_, rfl⟩
              obtain ⟨y, hy⟩ : ∃ y, X.getD q 0 = y := ⟨_, rfl⟩
              rw [hx] at cx
              rw [hy] at cy
              rw [hx, hy] at HWS
              have cx2 : wr.cell? ⟨b, o + q + 1, none⟩ = some (.int .u64 x) := by rw [Nat.add_assoc]; exact cx
              have hq1 : ((q + 1 : Nat) : Int) < (X.length : Int) := by omega
              clear hx hy
              generalize wantR X (q + 1) = W at HWS ⊢
              by_cases hxy : y < x
              · have hd : decide (x ≤ y) = false := by simp; omega
                rw [if_pos hxy] at HWS
                clear hxy
                go_wp2_with fail
                go_quiet (fail)
                go_wp2_with fail
                go_roundw
                case rel => exact ⟨q + 2, by omega, .inl (by omega), by go_num, by rw [HWS.out], Ext.trans _ _ _ HX2.out (ext_drewN _ _)⟩
                case measure => simp [intOf]; omega
              · have hd : decide (x ≤ y) = true := by simp; omega
                rw [if_neg hxy] at HWS
                clear hxy
                go_wp2_with fail
                go_quiet (fail)
                go_wp2_with fail
                go_roundw
                case rel => exact ⟨q + 2, by omega, .inl (by omega), by go_num, by rw [HWS.out], Ext.trans _ _ _ HX2.out (ext_drewN _ _)⟩
                case measure => simp [intOf]; omega
            · have hwc : wantR X k = checkR X := wantR_end (by omega) (by omega) hkx
              have hrx2 := HX2.out.reads HRX.out
              have HX3 := Lib.hid (Ext.trans _ _ _ HX.out HX2.out)
              have HR3 := Lib.hid hrx2
              rw [hwc]
              clear hrx2 hwc HX2 HX HRX cx'
              have hE : checkR X = 0 ∨ checkR X = 8 := by
                rcases checkR_cases X with h | h | h
                · exact .inl h
                · exact absurd h (checkR_no7 (by omega))
                · exact .inr h
              rcases hE with hE | hE
              · have HE := Lib.hid hE
                rw [hE]
                clear hE
                go_wp2_with fail
                refine (put_rises AX cX X wr HR3.out (by omega) HUX.out (checkR_rises HE.out)).mono ?_
                rintro e w7 ⟨A7, c7, rfl, _, hx7, _, _⟩
                have HX7 := Lib.hid (Ext.trans _ _ _ HX3.out hx7)
                have HR7 := Lib.hid (hx7.reads HR3.out)
                generalize (riceB (gaps X)).length = n7
                clear hx7
                go_wp2_with fail
                refine (check_c AX cX X w7 HR7.out (by omega)).mono ?_
                rintro e w8 ⟨rfl, hx8⟩
                rw [HE.out]
                have HX8 := Lib.hid (Ext.trans _ _ _ HX7.out hx8)
                clear hx8
                go_wp2_with fail
                go_roundw
                case rel => exact ⟨i + 1, by omega, by go_num, HX8.out⟩
                case measure => simp [intOf]; omega
              · have HE := Lib.hid hE
                rw [hE]
                clear hE
                go_wp2_with fail
                refine (put_not AX cX X wr HR3.out (by omega) 8 HE.out (by decide)).mono ?_
                rintro e w7 ⟨rfl, hx7⟩
                have HX7 := Lib.hid (Ext.trans _ _ _ HX3.out hx7)
                have HR7 := Lib.hid (hx7.reads HR3.out)
                clear hx7
                go_wp2_with fail
                refine (check_c AX cX X w7 HR7.out (by omega)).mono ?_
                rintro e w8 ⟨rfl, hx8⟩
                rw [HE.out]
                have HX8 := Lib.hid (Ext.trans _ _ _ HX7.out hx8)
                clear hx8
                go_wp2_with fail
                go_roundw
                case rel => exact ⟨i + 1, by omega, by go_num, HX8.out⟩
                case measure => simp [intOf]; omega
        · obtain rfl : i = 2 := by omega
          have hmk : ∀ w, (Instr.makeSlice 41 (.int .i64 4097) (.int .i64 4097)).run Try.prog w = .ok (.slice (some ⟨w.heap.size, 0, none⟩) 4097 4097) (w.alloc (.cells (madeCells #[.int .u64 0] 4097) 37)) := fun _ => by kernel_rfl
          have HXX := Lib.hid (Ext.trans _ _ _ HX5.out HX.out)
          go_wp2_with fail
          have hr9 := (Row.made 37 .u64 4097 wr (by decide)).readsAt
          have hx9 : Ext wr (wr.alloc (.cells (madeCells #[.int .u64 0] 4097) 37)) := (Below.refl _ _).alloc (Nat.le_refl _) _
          have h97 : checkR (List.replicate 4097 0) = 7 := checkR_many (by rw [List.length_replicate]; decide)
          have hc := check_c (some ⟨wr.heap.size, 0, none⟩) 4097 (List.replicate 4097 0) _ hr9 (by rw [List.length_replicate]; decide)
          rw [List.length_replicate, h97] at hc
          refine hc.mono ?_
          rintro e w9 ⟨rfl, hx10⟩
          have HX10 := Lib.hid (Ext.trans _ _ _ (Ext.trans _ _ _ HXX.out hx9) hx10)
          clear hc h97 hr9 hx9 hx10
          go_wp2_with fail
          go_ret
          exact ⟨rfl, HX10.out⟩
end Go.Proofs.Ytlmelcfiegamaaa.Rice
