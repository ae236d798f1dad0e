/- The index's Check: its walk. -/
import Derived.Test.YtfpeeilenocaoaaIdx
namespace Go.Proofs.Ytfpeeilenocaoaa.Idx
open Go.RowKit Go.Proofs.Ytfpeeilenocaoaa.Own Go.Proofs.Ytfpeeilenocaoaa.Rely
attribute [local go_sem] max_ints min_ints

/-- May an entry stand behind another one (or first)? -/
def chk1 (p : Option Ent) (x : Ent) : Nat :=
  if x.1.length < 1 ∨ 255 < x.1.length then 12
  else if x.2.1 < 0 ∨ 1048576 < x.2.1 ∨ x.2.2 < 1 ∨ 1048576 < x.2.2 then 2
  else match p with
    | none => 0
    | some q => if less q.1 x.1 = false then 8 else if x.2.1 = q.2.1 + q.2.2 then 0 else 4
def chkL : Option Ent → List Ent → Nat
  | _, [] => 0
  | p, x :: l => if chk1 p x = 0 then chkL (some x) l else chk1 p x
def checkX (l : List Ent) : Nat := if 1000 < l.length then 7 else chkL none l
def prev (l : List Ent) (j : Nat) : Option Ent := if j = 0 then none else some (l.getD (j - 1) e0)
theorem chk1_ok {p : Option Ent} {x : Ent} (h : chk1 p x = 0) : 1 ≤ x.1.length ∧ x.1.length ≤ 255 ∧ 0 ≤ x.2.1 ∧ x.2.1 ≤ 1048576 ∧ 1 ≤ x.2.2 ∧ x.2.2 ≤ 1048576 := by
  unfold chk1 at h
  split at h
  · cases h
  · split at h
    · cases h
    · omega
theorem chk_step {l : List Ent} {j : Nat} (hj : j < l.length) : chkL (prev l j) (l.drop j) = if chk1 (prev l j) (l.getD j e0) = 0 then chkL (prev l (j + 1)) (l.drop (j + 1)) else chk1 (prev l j) (l.getD j e0) := by
  have h : l.drop j = l.getD j e0 :: l.drop (j + 1) := by
    rw [List.drop_eq_getElem_cons hj]
    simp [List.getD_eq_getElem?_getD, List.getElem?_eq_getElem hj]
  rw [h]
  have hp : prev l (j + 1) = some (l.getD j e0) := by unfold prev; rw [if_neg (by omega)]; rfl
  rw [hp]
  rfl

set_option maxHeartbeats 16000000 in
set_option maxRecDepth 20000 in
theorem check_c (A : Option Addr) (c : Nat) (l : List Ent) (w : World) (hr : ReadsE w A l) (hl : l.length ≤ 9223372036854775807) :
    Calls Try.prog 24 #[.slice A l.length c] w fun e w' => e = .returned (.int .i64 (checkX l)) ∧ Ext w w' := by
  have HR := Lib.hid hr
  clear hr
  go_enter Try.func24, Try.ntmps24
  by_cases h7 : 1000 < l.length
  · have g1 : decide ((1000 : Int) < (l.length : Int)) = true := by simp; omega
    have hx : checkX l = 7 := if_pos h7
    rw [hx]
    go_wp2_with fail
    go_ret
    exact ⟨rfl, Ext.refl _⟩
  have g1 : decide ((1000 : Int) < (l.length : Int)) = false := by simp; omega
  have HX : RowKit.Hid (checkX l = chkL (prev l 0) (l.drop 0)) := Lib.hid (if_neg h7)
  obtain ⟨N, hN⟩ : ∃ N, checkX l = N := ⟨_, rfl⟩
  rw [hN] at HX ⊢
  clear hN
  go_wp2_with fail
  go_loopw [10] (fun v wq => ∃ j : Nat, j ≤ l.length ∧ v = .int .i64 j ∧ Ext w wq ∧ N = chkL (prev l j) (l.drop j) ∧ (0 < j → 0 ≤ (l.getD (j - 1) e0).2.1 ∧ (l.getD (j - 1) e0).2.1 ≤ 1048576 ∧ 1 ≤ (l.getD (j - 1) e0).2.2 ∧ (l.getD (j - 1) e0).2.2 ≤ 1048576)) (fun v _ => l.length - (intOf v).toNat)
  case atStart => exact ⟨0, by omega, rfl, Ext.refl _, HX.out, fun h => absurd h (by omega)⟩
  case round =>
    obtain ⟨j, hj, rfl, hxr, hch, hpv⟩ := hrel
    have XR := Lib.hid hxr
    clear hxr HX
    by_cases hj2 : j < l.length
    · have hj4 : decide ((j : Int) < (l.length : Int)) = true := by simp; omega
      rw [chk_step hj2] at hch
      obtain ⟨b, o, rfl, hb, c0, c1, c2⟩ := HR.out.ext XR.out j hj2
      obtain ⟨x, hx⟩ : ∃ x, l.getD j e0 = x := ⟨_, rfl⟩
      rw [hx] at c0 c1 c2 hch
      obtain ⟨nm, at_, sz⟩ := x
      have hszn : (strOfNums nm).size = nm.length := Crc.size_str nm
      simp only at c0 c1 c2
      have HC := Lib.hid hch
      clear hch hb
      by_cases q1 : nm.length < 1
      · have hN : N = 12 := by rw [HC.out]; simp [chk1, q1]
        subst hN
        have d1 : decide ((nm.length : Int) < 1) = true := by simp; omega
        go_wp2_with fail
        go_ret
        exact ⟨rfl, XR.out.trans _ _ _ ((Below.refl _ _).alloc (Nat.le_refl _) _)⟩
      have d1 : decide ((nm.length : Int) < 1) = false := by simp; omega
      by_cases q2 : 255 < nm.length
      · have hN : N = 12 := by rw [HC.out]; simp [chk1, q2]
        subst hN
        have d2 : decide ((255 : Int) < (nm.length : Int)) = true := by simp; omega
        go_wp2_with fail
        go_ret
        exact ⟨rfl, XR.out.trans _ _ _ ((Below.refl _ _).alloc (Nat.le_refl _) _)⟩
      have d2 : decide ((255 : Int) < (nm.length : Int)) = false := by simp; omega
      by_cases q3 : at_ < 0
      · have hN : N = 2 := by
          have hc : chk1 (prev l j) (nm, at_, sz) = 2 := by
            unfold chk1
            rw [if_neg (show ¬ (nm.length < 1 ∨ 255 < nm.length) by omega), if_pos (show at_ < 0 ∨ 1048576 < at_ ∨ sz < 1 ∨ 1048576 < sz by omega)]
          rw [HC.out, hc]; rfl
        subst hN
        have d3 : decide (at_ < 0) = true := by simp; omega
        go_wp2_with fail
        go_ret
        exact ⟨rfl, XR.out.trans _ _ _ ((Below.refl _ _).alloc (Nat.le_refl _) _)⟩
      have d3 : decide (at_ < 0) = false := by simp; omega
      by_cases q4 : 1048576 < at_
      · have hN : N = 2 := by
          have hc : chk1 (prev l j) (nm, at_, sz) = 2 := by
            unfold chk1
            rw [if_neg (show ¬ (nm.length < 1 ∨ 255 < nm.length) by omega), if_pos (show at_ < 0 ∨ 1048576 < at_ ∨ sz < 1 ∨ 1048576 < sz by omega)]
          rw [HC.out, hc]; rfl
        subst hN
        have d4 : decide ((1048576 : Int) < at_) = true := by simp; omega
        go_wp2_with fail
        go_ret
        exact ⟨rfl, XR.out.trans _ _ _ ((Below.refl _ _).alloc (Nat.le_refl _) _)⟩
      have d4 : decide ((1048576 : Int) < at_) = false := by simp; omega
      by_cases q5 : sz < 1
      · have hN : N = 2 := by
          have hc : chk1 (prev l j) (nm, at_, sz) = 2 := by
            unfold chk1
            rw [if_neg (show ¬ (nm.length < 1 ∨ 255 < nm.length) by omega), if_pos (show at_ < 0 ∨ 1048576 < at_ ∨ sz < 1 ∨ 1048576 < sz by omega)]
          rw [HC.out, hc]; rfl
        subst hN
        have d5 : decide (sz < 1) = true := by simp; omega
        go_wp2_with fail
        go_ret
        exact ⟨rfl, XR.out.trans _ _ _ ((Below.refl _ _).alloc (Nat.le_refl _) _)⟩
      have d5 : decide (sz < 1) = false := by simp; omega
      by_cases q6 : 1048576 < sz
      · have hN : N = 2 := by
          have hc : chk1 (prev l j) (nm, at_, sz) = 2 := by
            unfold chk1
            rw [if_neg (show ¬ (nm.length < 1 ∨ 255 < nm.length) by omega), if_pos (show at_ < 0 ∨ 1048576 < at_ ∨ sz < 1 ∨ 1048576 < sz by omega)]
          rw [HC.out, hc]; rfl
        subst hN
        have d6 : decide ((1048576 : Int) < sz) = true := by simp; omega
        go_wp2_with fail
        go_ret
        exact ⟨rfl, XR.out.trans _ _ _ ((Below.refl _ _).alloc (Nat.le_refl _) _)⟩
      have d6 : decide ((1048576 : Int) < sz) = false := by simp; omega
      have hx9 : Ext wr (wr.alloc (.cells #[.string (strOfNums nm), .int .i64 at_, .int .i64 sz] 55)) := (Below.refl _ _).alloc (Nat.le_refl _) _
      have hb9 := heap_alloc_new wr (.cells #[.string (strOfNums nm), .int .i64 at_, .int .i64 sz] 55)
      have y0 := Blk.cell (S := fun q => q = wr.heap.size) ⟨hb9, fun _ => Iff.rfl⟩ 0
      have y1 := Blk.cell (S := fun q => q = wr.heap.size) ⟨hb9, fun _ => Iff.rfl⟩ 1
      simp only [List.getElem?_toArray, List.getElem?_cons_zero, List.getElem?_cons_succ] at y0 y1
      have X9 := Lib.hid (XR.out.trans _ _ _ hx9)
      have RE := Lib.hid (HR.out.ext X9.out)
      clear hb9 hx9
      have hcc : chk1 (prev l j) (nm, at_, sz) = (match prev l j with | none => 0 | some q => if less q.1 nm = false then 8 else if at_ = q.2.1 + q.2.2 then 0 else 4) := by
        unfold chk1
        rw [if_neg (show ¬ (nm.length < 1 ∨ 255 < nm.length) by omega), if_neg (show ¬ (at_ < 0 ∨ 1048576 < at_ ∨ sz < 1 ∨ 1048576 < sz) by omega)]
      by_cases j0 : j = 0
      · have d7 : decide ((0 : Int) < (j : Int)) = false := by simp; omega
        have d7n : decide (0 < j) = false := by simp; omega
        have hN : N = chkL (prev l (j + 1)) (l.drop (j + 1)) := by
          have hp : prev l j = none := if_pos j0
          rw [hp] at hcc
          rw [HC.out, hp, hcc]; rfl
        have HN := Lib.hid hN
        clear hN hcc HC j0
        go_wp2_with fail
        go_quiet (fail)
        go_wp2_with fail
        go_quiet (fail)
        go_wp2_with fail
        go_roundw
        case rel => exact ⟨j + 1, by omega, by go_num, Ext.trans _ _ _ X9.out (Wire.ext_drewN _ _), HN.out, fun _ => by rw [Nat.add_sub_cancel, hx]; exact ⟨by omega, by omega, by omega, by omega⟩⟩
        case measure => simp [intOf]; omega
      · have d7 : decide ((0 : Int) < (j : Int)) = true := by simp; omega
        have d7n : decide (0 < j) = true := by simp; omega
        obtain ⟨i, hi⟩ : ∃ i, j = i + 1 := ⟨j - 1, by omega⟩
        have hji : (j : Int) - 1 = (i : Int) := by omega
        obtain ⟨b', o', eb, _, p0, p1, p2⟩ := RE.out i (by omega)
        injection eb with eb
        injection eb with eb1 eb2 _
        subst eb1 eb2
        have hpv2 := hpv (by omega)
        rw [hi, Nat.add_sub_cancel] at hpv2
        have hprev : prev l j = some (l.getD i e0) := by unfold prev; rw [if_neg j0, hi, Nat.add_sub_cancel]
        rw [hprev] at hcc
        obtain ⟨y, hy⟩ : ∃ y, l.getD i e0 = y := ⟨_, rfl⟩
        rw [hy] at p0 p1 p2 hpv2 hcc
        obtain ⟨nq, aq, sq⟩ := y
        simp only at p0 p1 p2 hpv2 hcc
        have HC2 := HC.out
        rw [hprev, hy, hcc] at HC2
        have HJ := Lib.hid hi
        clear HC hcc hi hpv j0 hprev hy
        by_cases r1 : less nq nm = true
        · have r1b : Op.bytesLess (strOfNums nq).toList (strOfNums nm).toList = true := r1
          have r1c : (Op.bytesLess (strOfNums nm).toList (strOfNums nq).toList || (strOfNums nm).toList == (strOfNums nq).toList) = false := by rw [leq_less, r1b]; rfl
          have hw : wrap64 (aq + sq) = aq + sq := (by unfold wrap64; omega)
          by_cases r2 : at_ = aq + sq
          · have r2b : decide (at_ = aq + sq) = true := by simpa using r2
            have hN : N = chkL (prev l (j + 1)) (l.drop (j + 1)) := by
              rw [HC2]; simp [r1, r2]
            have HN := Lib.hid hN
            have r2c : (at_ != aq + sq) = false := by simp [r2]
            clear hN HC2 r2
            go_wp2_with fail
            go_quiet (fail)
            go_wp2_with fail
            go_quiet (fail)
            go_wp2_with fail
            go_roundw
            case rel => exact ⟨j + 1, by omega, by go_num, Ext.trans _ _ _ X9.out (Wire.ext_drewN _ _), HN.out, fun _ => by rw [Nat.add_sub_cancel, hx]; exact ⟨by omega, by omega, by omega, by omega⟩⟩
            case measure => simp [intOf]; omega
          · have r2b : decide (at_ = aq + sq) = false := by simpa using r2
            have hN : N = 4 := by
              rw [HC2]; simp [r1, r2]
            have r2c : (at_ != aq + sq) = true := by simp [r2]
            subst hN
            clear HC2
            go_wp2_with fail
            go_quiet (fail)
            go_wp2_with fail
            go_quiet (fail)
            go_wp2_with fail
            go_ret
            exact ⟨rfl, Ext.trans _ _ _ X9.out (Ext.trans _ _ _ (Wire.ext_drewN _ _) (Wire.ext_drewN _ _))⟩
        · have r1b : Op.bytesLess (strOfNums nq).toList (strOfNums nm).toList = false := by simpa [less] using r1
          have r1c : (Op.bytesLess (strOfNums nm).toList (strOfNums nq).toList || (strOfNums nm).toList == (strOfNums nq).toList) = true := by rw [leq_less, r1b]; rfl
          have r1d := r1c
          simp only [Bool.or_eq_true, beq_iff_eq] at r1d
          have hN : N = 8 := by rw [HC2]; simp [r1]
          subst hN
          clear HC2
          go_wp2_with fail
          go_quiet (fail)
          go_wp2_with fail
          go_ret
          exact ⟨rfl, Ext.trans _ _ _ X9.out (Wire.ext_drewN _ _)⟩
    · obtain rfl : j = l.length := by omega
      have hN : N = 0 := by rw [hch, List.drop_length]; rfl
      subst hN
      go_wp2_with fail
      go_ret
      exact ⟨rfl, XR.out⟩
end Go.Proofs.Ytfpeeilenocaoaa.Idx
