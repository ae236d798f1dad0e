/- P21.1, without the document's answer: the first entries of an index are one; each name is found where it is: at every input, without conditions. -/
import Derived.Test.YtfpeeilenocaoaaIdxFind
namespace Go.Proofs.Ytfpeeilenocaoaa.Idx
open Go.RowKit Go.Proofs.Ytfpeeilenocaoaa.Own Go.Proofs.Ytfpeeilenocaoaa.Rely Go.Proofs.Ytfpeeilenocaoaa.Crc Go.Proofs.Ytfpeeilenocaoaa.Frame
attribute [local go_sem] max_ints min_ints

theorem chkL_take : ∀ (l : List Ent) (p : Option Ent) (m : Nat), chkL p l = 0 → chkL p (l.take m) = 0
  | [], p, m, _ => by simp [chkL]
  | x :: l, p, 0, _ => by simp [chkL]
  | x :: l, p, m + 1, h => by
    obtain ⟨h1, h2⟩ := chkL_cons h
    rw [List.take_succ_cons]
    unfold chkL
    rw [if_pos h1]
    exact chkL_take l _ m h2
theorem chk_take {l : List Ent} (h : checkX l = 0) (m : Nat) : checkX (l.take m) = 0 := by
  have hl := (check_bd h).1
  unfold checkX at h ⊢
  rw [if_neg (by omega)] at h
  rw [if_neg (by rw [List.length_take]; omega)]
  exact chkL_take l _ m h
theorem same_name {l : List Ent} (h : checkX l = 0) {i j : Nat} (hi : i < l.length) (hj : j < l.length) (he : (l.getD i e0).1 = (l.getD j e0).1) : i = j := by
  rcases Nat.lt_trichotomy i j with x | x | x
  · have := rise h x hj; rw [he, less_irrefl] at this; cases this
  · exact x
  · have := rise h x hi; rw [he, less_irrefl] at this; cases this
def entV (x : Ent) : Value := .agg #[.string (strOfNums x.1), .int .i64 x.2.1, .int .i64 x.2.2]
theorem found_at {l : List Ent} (h : checkX l = 0) {i : Nat} (hi : i < l.length) {e : Ending} (hf : Found l (l.getD i e0).1 e) : e = .returned (.tuple #[.agg #[.string (strOfNums (l.getD i e0).1), .int .i64 (l.getD i e0).2.1, .int .i64 (l.getD i e0).2.2], .bool true]) := by
  rcases hf with ⟨j, hj, hn, he⟩ | ⟨hn, _⟩
  · obtain rfl := same_name h hj hi hn
    exact he
  · exact absurd rfl (hn i hi)
theorem take_getD {l : List Ent} {m i : Nat} (h : i < m) : (l.take m).getD i e0 = l.getD i e0 := by
  rw [List.getD_eq_getElem?_getD, List.getD_eq_getElem?_getD, List.getElem?_take, if_pos h]
theorem found_take {l : List Ent} (h : checkX l = 0) {i m : Nat} (hi : i < l.length) (hm : m ≤ l.length) {e : Ending} (hf : Found (l.take m) (l.getD i e0).1 e) :
    (i < m → e = .returned (.tuple #[.agg #[.string (strOfNums (l.getD i e0).1), .int .i64 (l.getD i e0).2.1, .int .i64 (l.getD i e0).2.2], .bool true])) ∧ (¬ i < m → e = .returned (.tuple #[.agg #[.string ⟨#[]⟩, .int .i64 0, .int .i64 0], .bool false])) := by
  have hlm : (l.take m).length = m := by rw [List.length_take]; omega
  rcases hf with ⟨j, hj, hn, he⟩ | ⟨hn, he⟩
  · rw [hlm] at hj
    rw [take_getD hj] at hn he
    obtain rfl := same_name h (show j < l.length by omega) hi hn
    exact ⟨fun _ => he, fun x => absurd hj x⟩
  · refine ⟨fun x => ?_, fun _ => he⟩
    have := hn i (by rw [hlm]; exact x)
    rw [take_getD x] at this
    exact absurd rfl this

set_option maxHeartbeats 16000000 in
set_option maxRecDepth 20000 in
theorem first_wf (A : Option Addr) (c : Nat) (xs : List Itm) (at_ cut : Int) (w : World) (h1 : ArgT w A c xs) (h2 : (Lit.int .u16 at_).wf = true) (h3 : (Lit.int .u8 cut).wf = true) :
    Calls Try.prog 13 #[.slice A xs.length c, .int .u16 at_, .int .u8 cut] w fun e w' => e = .returned (.bool true) ∧ Below w.heap.size w w' := by
  have hat := wf_u16 h2
  have hcu := wf_u8 h3
  obtain ⟨an, rfl⟩ : ∃ n : Nat, at_ = (n : Int) := ⟨at_.toNat, by omega⟩
  obtain ⟨cn, rfl⟩ : ∃ n : Nat, cut = (n : Int) := ⟨cut.toNat, by omega⟩
  have HR := Lib.hid h1.reads
  have HOK := Lib.hid h1.okay
  clear h1 h2 h3
  go_enter Try.func13, Try.ntmps13
  go_wp2_with fail
  refine (awake21 w).mono ?_
  rintro e w1 ⟨rfl, hx1⟩
  have X1 := Lib.hid hx1
  clear hx1
  by_cases hl : 60 < xs.length
  · have g1 : decide ((60 : Int) < (xs.length : Int)) = true := by simp; omega
    go_wp2_with fail
    go_ret
    exact ⟨rfl, X1.out⟩
  have g1 : decide ((60 : Int) < (xs.length : Int)) = false := by simp; omega
  have HMK := Lib.hid (make_c A c xs w1 (HR.out.ext X1.out) HOK.out (by omega) an (by omega))
  go_wp2_with fail
  refine HMK.out.mono ?_
  rintro e w2 ⟨v, L, rfl, hmk⟩
  have X2 := Lib.hid (Ext.trans _ _ _ X1.out hmk.ext)
  have HNM := Lib.hid hmk.nmb
  have hL := hmk.len
  obtain ⟨Av, cv, rfl, hcv1, hrd, _, hcv2⟩ := hmk.row.reads
  have HRE := Lib.hid hrd
  have HCK := Lib.hid (check_c Av cv L w2 hrd (by omega))
  obtain ⟨N, hN⟩ : ∃ N, checkX L = N := ⟨_, rfl⟩
  rw [hN] at HCK
  clear hmk hrd HMK X1 HR HOK
  go_wp2_with fail
  refine HCK.out.mono ?_
  rintro e w3 ⟨rfl, hx3⟩
  have X3 := Lib.hid (Ext.trans _ _ _ X2.out hx3)
  have HRE3 := Lib.hid (HRE.out.ext hx3)
  clear hx3 HCK HRE X2
  by_cases hN0 : N = 0
  · subst hN0
    have HC0 := Lib.hid hN
    obtain ⟨m, hm, hmL⟩ : ∃ m : Nat, Int.tmod (cn : Int) ((L.length : Int) + 1) = (m : Int) ∧ m ≤ L.length := ⟨cn % (L.length + 1), by rw [Int.tmod_eq_emod_of_nonneg (by omega)]; rfl, by have := Nat.mod_lt cn (show 0 < L.length + 1 by omega); omega⟩
    have hmc : m ≤ cv := by omega
    have hnz : ¬ (L.length : Int) + 1 = 0 := by omega
    clear hN
    cases Av with
    | none =>
      have hL0 : L = [] := by
        cases L with
        | nil => rfl
        | cons x r =>
          obtain ⟨b, o, e, _⟩ := HRE3.out 0 (by simp)
          cases e
      subst hL0
      obtain rfl : m = 0 := by simpa using hmL
      go_wp2_with fail
      go_loopw [36] (fun v wq => v = .int .i64 0 ∧ Ext w3 wq) (fun _ _ => 0)
      case atStart => exact ⟨rfl, Ext.refl _⟩
      case round =>
        obtain ⟨rfl, hxr⟩ := hrel
        have XR := Lib.hid hxr
        clear hxr
        have HCK := Lib.hid (show Calls Try.prog 24 #[.slice none 0 cv] wr fun e w' => e = .returned (.int .i64 (checkX [])) ∧ Ext wr w' from check_c none cv [] wr (fun i hi => absurd hi (Nat.not_lt_zero i)) (by simp))
        go_wp2_with fail
        refine HCK.out.mono ?_
        rintro e w9 ⟨rfl, hx9⟩
        have X9 := Lib.hid (Ext.trans _ _ _ X3.out (Ext.trans _ _ _ XR.out hx9))
        have hz : ((checkX [] : Nat) : Int) = 0 := rfl
        rw [hz]
        clear hx9 hz
        go_wp2_with fail
        go_ret
        exact ⟨rfl, X9.out⟩
    | some a =>
      have hlm : (L.take m).length = m := by rw [List.length_take]; omega
      have HCT := Lib.hid (chk_take HC0.out m)
      have HNT := Lib.hid (show NmB (L.take m) from fun x hx => HNM.out x (List.mem_of_mem_take hx))
      have HLM := Lib.hid hlm
      clear hlm
      go_wp2_with fail
      go_loopw [36] (fun v wq => ∃ j : Nat, j ≤ L.length ∧ v = .int .i64 j ∧ Ext w3 wq) (fun v _ => L.length - (intOf v).toNat)
      case atStart => exact ⟨0, by omega, rfl, Ext.refl _⟩
      case round =>
        obtain ⟨j, hj, rfl, hxr⟩ := hrel
        have XR := Lib.hid hxr
        clear hxr
        by_cases hj2 : j < L.length
        · have d1 := nat_lt_of hj2
          obtain ⟨b, o, ea, _, c0, c1, c2⟩ := HRE3.out.ext XR.out j hj2
          injection ea with ea
          subst ea
          have HFF := Lib.hid (fun e (hf : Found (L.take m) (L.getD j e0).1 e) => found_take HC0.out hj2 hmL hf)
          have HFX := Lib.hid (fun e (hf : Found L (L.getD j e0).1 e) => found_at HC0.out hj2 hf)
          have HNB := Lib.hid (HNM.out _ (getD_mem hj2))
          obtain ⟨x, hx⟩ : ∃ x, L.getD j e0 = x := ⟨_, rfl⟩
          rw [hx] at c0 c1 c2 HFF HFX HNB
          obtain ⟨nm, p, z⟩ := x
          simp only at c0 c1 c2 HFF HFX HNB
          clear hx
          have hx9 : Ext wr (wr.alloc (.cells #[.string (strOfNums nm), .int .i64 p, .int .i64 z] 55)) := (Below.refl _ _).alloc (Nat.le_refl _) _
          have hb9 := heap_alloc_new wr (.cells #[.string (strOfNums nm), .int .i64 p, .int .i64 z] 55)
          have y0 := Blk.cell (S := fun q => q = wr.heap.size) ⟨hb9, fun _ => Iff.rfl⟩ 0
          have y1 := Blk.cell (S := fun q => q = wr.heap.size) ⟨hb9, fun _ => Iff.rfl⟩ 1
          have y2 := Blk.cell (S := fun q => q = wr.heap.size) ⟨hb9, fun _ => Iff.rfl⟩ 2
          simp only [List.getElem?_toArray, List.getElem?_cons_zero, List.getElem?_cons_succ] at y0 y1 y2
          have X9 := Lib.hid (Ext.trans _ _ _ XR.out hx9)
          have hfc := find_c (some ⟨b, o, none⟩) cv (L.take m) nm _ ((HRE3.out.ext X9.out).take m) HCT.out HNT.out HNB.out
          rw [HLM.out] at hfc
          have HF1 := Lib.hid hfc
          clear hfc hb9 hx9
          go_wp2_with fail
          refine HF1.out.mono ?_
          rintro e w10 ⟨hf, hx10⟩
          clear HF1
          by_cases hjm : j < m
          · obtain rfl := (HFF.out e hf).1 hjm
            have dj : decide ((j : Int) < (m : Int)) = true := by simp; omega
            have hx11 : Ext w10 (w10.alloc (.cells #[.string (strOfNums nm), .int .i64 p, .int .i64 z] 55)) := (Below.refl _ _).alloc (Nat.le_refl _) _
            have hb11 := heap_alloc_new w10 (.cells #[.string (strOfNums nm), .int .i64 p, .int .i64 z] 55)
            have z0 := Blk.cell (S := fun q => q = w10.heap.size) ⟨hb11, fun _ => Iff.rfl⟩ 0
            have z1 := Blk.cell (S := fun q => q = w10.heap.size) ⟨hb11, fun _ => Iff.rfl⟩ 1
            have z2 := Blk.cell (S := fun q => q = w10.heap.size) ⟨hb11, fun _ => Iff.rfl⟩ 2
            simp only [List.getElem?_toArray, List.getElem?_cons_zero, List.getElem?_cons_succ] at z0 z1 z2
            have X11 := Lib.hid (Ext.trans _ _ _ X9.out (Ext.trans _ _ _ hx10 hx11))
            replace y0 := (Ext.trans _ _ _ hx10 hx11).cell y0
            replace y1 := (Ext.trans _ _ _ hx10 hx11).cell y1
            replace y2 := (Ext.trans _ _ _ hx10 hx11).cell y2
            have HF2 := Lib.hid (find_c (some ⟨b, o, none⟩) cv L nm _ (HRE3.out.ext X11.out) HC0.out HNM.out HNB.out)
            clear hx10 hx11 hb11 hf
            go_wp2_with fail
            refine HF2.out.mono ?_
            rintro e w12 ⟨hf2, hx12⟩
            obtain rfl := HFX.out e hf2
            have hx13 : Ext w12 (w12.alloc (.cells #[.string (strOfNums nm), .int .i64 p, .int .i64 z] 55)) := (Below.refl _ _).alloc (Nat.le_refl _) _
            have hb13 := heap_alloc_new w12 (.cells #[.string (strOfNums nm), .int .i64 p, .int .i64 z] 55)
            have u0 := Blk.cell (S := fun q => q = w12.heap.size) ⟨hb13, fun _ => Iff.rfl⟩ 0
            have u1 := Blk.cell (S := fun q => q = w12.heap.size) ⟨hb13, fun _ => Iff.rfl⟩ 1
            have u2 := Blk.cell (S := fun q => q = w12.heap.size) ⟨hb13, fun _ => Iff.rfl⟩ 2
            simp only [List.getElem?_toArray, List.getElem?_cons_zero, List.getElem?_cons_succ] at u0 u1 u2
            have X13 := Lib.hid (Ext.trans _ _ _ X11.out (Ext.trans _ _ _ hx12 hx13))
            replace y0 := (Ext.trans _ _ _ hx12 hx13).cell y0
            replace y1 := (Ext.trans _ _ _ hx12 hx13).cell y1
            replace y2 := (Ext.trans _ _ _ hx12 hx13).cell y2
            replace z0 := (Ext.trans _ _ _ hx12 hx13).cell z0
            replace z1 := (Ext.trans _ _ _ hx12 hx13).cell z1
            replace z2 := (Ext.trans _ _ _ hx12 hx13).cell z2
            clear hx12 hx13 hb13 hf2 HF2 X11
            go_wp2_with fail
            go_roundw
            case rel => exact ⟨j + 1, by omega, by go_num, X13.out⟩
            case measure => simp [intOf]; omega
          · obtain rfl := (HFF.out e hf).2 hjm
            have dj : decide ((j : Int) < (m : Int)) = false := by simp; omega
            have hx11 : Ext w10 (w10.alloc (.cells #[.string (⟨#[]⟩), .int .i64 0, .int .i64 0] 55)) := (Below.refl _ _).alloc (Nat.le_refl _) _
            have hb11 := heap_alloc_new w10 (.cells #[.string (⟨#[]⟩), .int .i64 0, .int .i64 0] 55)
            have z0 := Blk.cell (S := fun q => q = w10.heap.size) ⟨hb11, fun _ => Iff.rfl⟩ 0
            have z1 := Blk.cell (S := fun q => q = w10.heap.size) ⟨hb11, fun _ => Iff.rfl⟩ 1
            have z2 := Blk.cell (S := fun q => q = w10.heap.size) ⟨hb11, fun _ => Iff.rfl⟩ 2
            simp only [List.getElem?_toArray, List.getElem?_cons_zero, List.getElem?_cons_succ] at z0 z1 z2
            have X11 := Lib.hid (Ext.trans _ _ _ X9.out (Ext.trans _ _ _ hx10 hx11))
            replace y0 := (Ext.trans _ _ _ hx10 hx11).cell y0
            replace y1 := (Ext.trans _ _ _ hx10 hx11).cell y1
            replace y2 := (Ext.trans _ _ _ hx10 hx11).cell y2
            have HF2 := Lib.hid (find_c (some ⟨b, o, none⟩) cv L nm _ (HRE3.out.ext X11.out) HC0.out HNM.out HNB.out)
            clear hx10 hx11 hb11 hf
            go_wp2_with fail
            refine HF2.out.mono ?_
            rintro e w12 ⟨hf2, hx12⟩
            obtain rfl := HFX.out e hf2
            have hx13 : Ext w12 (w12.alloc (.cells #[.string (strOfNums nm), .int .i64 p, .int .i64 z] 55)) := (Below.refl _ _).alloc (Nat.le_refl _) _
            have hb13 := heap_alloc_new w12 (.cells #[.string (strOfNums nm), .int .i64 p, .int .i64 z] 55)
            have u0 := Blk.cell (S := fun q => q = w12.heap.size) ⟨hb13, fun _ => Iff.rfl⟩ 0
            have u1 := Blk.cell (S := fun q => q = w12.heap.size) ⟨hb13, fun _ => Iff.rfl⟩ 1
            have u2 := Blk.cell (S := fun q => q = w12.heap.size) ⟨hb13, fun _ => Iff.rfl⟩ 2
            simp only [List.getElem?_toArray, List.getElem?_cons_zero, List.getElem?_cons_succ] at u0 u1 u2
            have X13 := Lib.hid (Ext.trans _ _ _ X11.out (Ext.trans _ _ _ hx12 hx13))
            replace y0 := (Ext.trans _ _ _ hx12 hx13).cell y0
            replace y1 := (Ext.trans _ _ _ hx12 hx13).cell y1
            replace y2 := (Ext.trans _ _ _ hx12 hx13).cell y2
            replace z0 := (Ext.trans _ _ _ hx12 hx13).cell z0
            replace z1 := (Ext.trans _ _ _ hx12 hx13).cell z1
            replace z2 := (Ext.trans _ _ _ hx12 hx13).cell z2
            clear hx12 hx13 hb13 hf2 HF2 X11
            go_wp2_with fail
            go_roundw
            case rel => exact ⟨j + 1, by omega, by go_num, X13.out⟩
            case measure => simp [intOf]; omega
        · obtain rfl : j = L.length := by omega
          have d1 : decide ((L.length : Int) < (L.length : Int)) = false := by simp
          have hck := check_c (some a) cv (L.take m) _ ((HRE3.out.ext XR.out).take m) (by rw [HLM.out]; omega)
          rw [HCT.out, HLM.out] at hck
          have HCK := Lib.hid hck
          clear hck
          go_wp2_with fail
          refine HCK.out.mono ?_
          rintro e w9 ⟨rfl, hx9⟩
          have X9 := Lib.hid (Ext.trans _ _ _ X3.out (Ext.trans _ _ _ XR.out hx9))
          clear hx9
          go_wp2_with fail
          go_ret
          exact ⟨rfl, X9.out⟩
  · have hnb : ((N : Int) != 0) = true := by simp; omega
    have hnb2 : ¬ (N : Int) = 0 := by omega
    go_wp2_with fail
    go_ret
    exact ⟨rfl, X3.out⟩
end Go.Proofs.Ytfpeeilenocaoaa.Idx
