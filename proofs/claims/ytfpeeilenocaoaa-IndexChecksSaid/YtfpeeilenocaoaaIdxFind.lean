/- The index's Find. -/
import Derived.Test.YtfpeeilenocaoaaIdxAwk
namespace Go.Proofs.Ytfpeeilenocaoaa.Idx
open Go.RowKit Go.Proofs.Ytfpeeilenocaoaa.Own Go.Proofs.Ytfpeeilenocaoaa.Rely Go.Proofs.Ytfpeeilenocaoaa.Crc Go.Proofs.Ytfpeeilenocaoaa.Frame
attribute [local go_sem] max_ints min_ints

theorem nat_lt_of {a b : Nat} (h : a < b) : decide ((a : Int) < (b : Int)) = true := by simp; omega
set_option maxHeartbeats 4000000 in
theorem clos_c (pS pN : Nat) (A : Option Addr) (c : Nat) (l : List Ent) (nm : List Int) (i : Nat) (w : World) (hS : w.cell? ⟨pS, 0, none⟩ = some (.slice A l.length c)) (hN : w.cell? ⟨pN, 0, none⟩ = some (.string (strOfNums nm))) (hr : ReadsE w A l) (hi : i < l.length) :
    Calls Try.prog 46 #[.int .i64 i, .pointer (some ⟨pS, 0, none⟩), .pointer (some ⟨pN, 0, none⟩)] w fun e w' => e = .returned (.bool (!less (l.getD i e0).1 nm)) ∧ ∃ n, w' = w.drewN n := by
  obtain ⟨b, o, rfl, _, c0, c1, c2⟩ := hr i hi
  have hlt : (i : Int) < (l.length : Int) := by omega
  have hq := nat_lt_of hi
  obtain ⟨x, hx⟩ : ∃ x, l.getD i e0 = x := ⟨_, rfl⟩
  rw [hx] at c0 ⊢
  clear hr hx c1 c2
  go_enter Try.func46, Try.ntmps46
  go_wp2_with fail
  go_quiet (fail)
  go_wp2_with fail
  go_ret
  exact ⟨rfl, _, rfl⟩

set_option maxHeartbeats 16000000 in
set_option maxRecDepth 20000 in
theorem search_c (pS pN : Nat) (A : Option Addr) (c : Nat) (l : List Ent) (nm : List Int) (w : World) (hS : w.cell? ⟨pS, 0, none⟩ = some (.slice A l.length c)) (hN : w.cell? ⟨pN, 0, none⟩ = some (.string (strOfNums nm))) (hr : ReadsE w A l) (hl : l.length ≤ 1000)
    (hm : ∀ i j, i ≤ j → j < l.length → less (l.getD j e0).1 nm = true → less (l.getD i e0).1 nm = true) :
    Calls Try.prog 45 #[.int .i64 l.length, .func (.func 46) #[] #[.pointer (some ⟨pS, 0, none⟩), .pointer (some ⟨pN, 0, none⟩)]] w fun e w' => ∃ k : Nat, e = .returned (.int .i64 k) ∧ k ≤ l.length ∧ (∀ i, i < k → less (l.getD i e0).1 nm = true) ∧ (k < l.length → less (l.getD k e0).1 nm = false) ∧ ∃ n, w' = w.drewN n := by
  have HR := Lib.hid hr
  have HM := Lib.hid hm
  have HS := Lib.hid hS
  have HN := Lib.hid hN
  clear hr hm hS hN
  go_enter Try.func45, Try.ntmps45
  go_wp2_with fail
  go_loopw [5, 6] (fun v5 v6 wq => ∃ lo hi : Nat, v5 = .int .i64 lo ∧ v6 = .int .i64 hi ∧ lo ≤ hi ∧ hi ≤ l.length ∧ (∀ i, i < lo → less (l.getD i e0).1 nm = true) ∧ (hi < l.length → less (l.getD hi e0).1 nm = false) ∧ ∃ n, wq = w.drewN n) (fun u v _ => (intOf v).toNat - (intOf u).toNat)
  case atStart => exact ⟨0, l.length, rfl, rfl, by omega, Nat.le_refl _, (fun i hi => absurd hi (by omega)), (fun h => absurd h (by omega)), 0, rfl⟩
  case round =>
    obtain ⟨lo, hi, rfl, rfl, h1, h2, h3, h4, nq, rfl⟩ := hrel
    have H3 := Lib.hid h3
    have H4 := Lib.hid h4
    clear h3 h4
    by_cases hlh : lo < hi
    · have d1 := nat_lt_of hlh
      obtain ⟨m, hmm, hm1, hm2⟩ : ∃ m : Nat, ((lo : Int) + (hi : Int)) / 2 = (m : Int) ∧ lo ≤ m ∧ m < hi := ⟨(lo + hi) / 2, by omega, by omega, by omega⟩
      have HC := Lib.hid (clos_c pS pN A c l nm m (w.drewN nq) HS.out HN.out (HR.out.ext (Wire.ext_drewN _ _)) (by omega))
      go_wp2_with fail
      refine HC.out.mono ?_
      rintro e wq ⟨rfl, n2, rfl⟩
      clear HC
      cases hb : less (l.getD m e0).1 nm with
      | true =>
        go_wp2_with fail
        go_roundw
        case rel => exact ⟨m + 1, hi, by go_num, rfl, by omega, h2, fun i hi' => HM.out i m (by omega) (by omega) hb, H4.out, nq + n2, rfl⟩
        case measure => simp [intOf]; omega
      | false =>
        go_wp2_with fail
        go_roundw
        case rel => exact ⟨lo, m, rfl, rfl, by omega, by omega, H3.out, fun _ => hb, nq + n2, rfl⟩
        case measure => simp [intOf]; omega
    · obtain rfl : lo = hi := by omega
      have d1 : decide ((lo : Int) < (lo : Int)) = false := by simp
      go_wp2_with fail
      go_ret
      exact ⟨lo, rfl, h2, H3.out, H4.out, _, rfl⟩

/-- Names that rise. -/
theorem chkL_rise : ∀ (l : List Ent) (p : Option Ent), chkL p l = 0 → (∀ q, p = some q → ∀ x ∈ l, less q.1 x.1 = true) ∧ l.Pairwise (fun x y => less x.1 y.1 = true)
  | [], _, _ => ⟨fun _ _ x hx => (by cases hx), List.Pairwise.nil⟩
  | x :: l, p, h => by
    obtain ⟨h1, h2⟩ := chkL_cons h
    obtain ⟨i1, i2⟩ := chkL_rise l (some x) h2
    refine ⟨fun q hq y hy => ?_, List.Pairwise.cons (fun y hy => i1 x rfl y hy) i2⟩
    subst hq
    have hx := (chk1_next h1).1
    rcases List.mem_cons.1 hy with rfl | hy
    · exact hx
    · exact less_trans hx (i1 x rfl y hy)
theorem rise {l : List Ent} (h : checkX l = 0) {i j : Nat} (hij : i < j) (hj : j < l.length) : less (l.getD i e0).1 (l.getD j e0).1 = true := by
  have hc : chkL none l = 0 := by
    have hl := (check_bd h).1
    unfold checkX at h
    rwa [if_neg (by omega)] at h
  have hp := List.pairwise_iff_getElem.1 (chkL_rise l none hc).2 i j (by omega) hj hij
  rw [List.getD_eq_getElem?_getD, List.getD_eq_getElem?_getD, List.getElem?_eq_getElem hj, List.getElem?_eq_getElem (show i < l.length by omega)]
  exact hp
/-- What Find tells. -/
def Found (l : List Ent) (nm : List Int) (e : Ending) : Prop :=
  (∃ i, i < l.length ∧ (l.getD i e0).1 = nm ∧ e = .returned (.tuple #[.agg #[.string (strOfNums (l.getD i e0).1), .int .i64 (l.getD i e0).2.1, .int .i64 (l.getD i e0).2.2], .bool true])) ∨
  ((∀ i, i < l.length → (l.getD i e0).1 ≠ nm) ∧ e = .returned (.tuple #[.agg #[.string ⟨#[]⟩, .int .i64 0, .int .i64 0], .bool false]))
set_option maxHeartbeats 16000000 in
set_option maxRecDepth 20000 in
theorem find_c (A : Option Addr) (c : Nat) (l : List Ent) (nm : List Int) (w : World) (hr : ReadsE w A l) (hc : checkX l = 0) (hn : NmB l) (hnb : IsBytes nm) :
    Calls Try.prog 28 #[.slice A l.length c, .string (strOfNums nm)] w fun e w' => Found l nm e ∧ Ext w w' := by
  have hl := (check_bd hc).1
  have hm : ∀ i j, i ≤ j → j < l.length → less (l.getD j e0).1 nm = true → less (l.getD i e0).1 nm = true := fun i j hij hj h => by
    rcases Nat.lt_or_ge i j with x | x
    · exact less_trans (rise hc x hj) h
    · obtain rfl : i = j := by omega
      exact h
  have hxa : Ext w (w.alloc (.cells #[.slice A l.length c] 50)) := (Below.refl _ _).alloc (Nat.le_refl _) _
  have hba := heap_alloc_new w (.cells #[.slice A l.length c] 50)
  obtain ⟨wa, hwa⟩ : ∃ wa, w.alloc (.cells #[.slice A l.length c] 50) = wa := ⟨_, rfl⟩
  rw [hwa] at hxa hba
  have hxb : Ext wa (wa.alloc (.cells #[.string (strOfNums nm)] 9)) := (Below.refl _ _).alloc (Nat.le_refl _) _
  have hbb := heap_alloc_new wa (.cells #[.string (strOfNums nm)] 9)
  obtain ⟨wb, hwb⟩ : ∃ wb, wa.alloc (.cells #[.string (strOfNums nm)] 9) = wb := ⟨_, rfl⟩
  rw [hwb] at hxb hbb
  have hxc : Ext wb (wb.alloc (.cells #[.string ⟨#[]⟩, .int .i64 0, .int .i64 0] 55)) := (Below.refl _ _).alloc (Nat.le_refl _) _
  have hbc := heap_alloc_new wb (.cells #[.string ⟨#[]⟩, .int .i64 0, .int .i64 0] 55)
  obtain ⟨wc, hwc⟩ : ∃ wc, wb.alloc (.cells #[.string ⟨#[]⟩, .int .i64 0, .int .i64 0] 55) = wc := ⟨_, rfl⟩
  rw [hwc] at hxc hbc
  have kS : wc.cell? ⟨w.heap.size, 0, none⟩ = some (.slice A l.length c) := (Ext.trans _ _ _ hxb hxc).cell (Blk.cell (S := fun q => q = w.heap.size) ⟨hba, fun _ => Iff.rfl⟩ 0)
  have kN : wc.cell? ⟨wa.heap.size, 0, none⟩ = some (.string (strOfNums nm)) := hxc.cell (Blk.cell (S := fun q => q = wa.heap.size) ⟨hbb, fun _ => Iff.rfl⟩ 0)
  have XC := Lib.hid (Ext.trans _ _ _ hxa (Ext.trans _ _ _ hxb hxc))
  have HBC := Lib.hid (show Blk wb.heap.size #[.string ⟨#[]⟩, .int .i64 0, .int .i64 0] 55 wc (fun q => q = wb.heap.size) from ⟨hbc, fun _ => Iff.rfl⟩)
  have HSC := Lib.hid (search_c w.heap.size wa.heap.size A c l nm wc kS kN (hr.ext XC.out) hl hm)
  have hpR : w.heap.size ≤ wb.heap.size := Nat.le_trans hxa.size hxb.size
  have HR := Lib.hid hr
  have HNB := Lib.hid hnb
  have HNM := Lib.hid hn
  have HCK := Lib.hid hc
  clear hr hm hn hnb hxa hba hxb hbb hxc hbc hc
  go_enter Try.func28, Try.ntmps28
  go_wp2_with fail
  refine HSC.out.mono ?_
  rintro e wd ⟨k, rfl, hk, hlt, hge, n1, rfl⟩
  have hdn : Ext wc (wc.drewN n1) := Wire.ext_drewN _ _
  replace kS := hdn.cell kS
  replace kN := hdn.cell kN
  have HBD := Lib.hid (Ext.keep (Lcl.blk _ _ _) hdn HBC.out)
  have XD := Lib.hid (Ext.trans _ _ _ XC.out hdn)
  have HLT := Lib.hid hlt
  have HGE := Lib.hid hge
  clear hdn HBC XC HSC hlt hge hwa hwb hwc
  generalize wc.drewN n1 = w3 at kS kN HBD XD ⊢
  generalize wb.heap.size = pR at HBD hpR ⊢
  generalize wa.heap.size = pN at kN ⊢
  have q0 : w3.cell? ⟨pR, 0, none⟩ = some (.string ⟨#[]⟩) := HBD.out.cell 0
  have q1 : w3.cell? ⟨pR, 1, none⟩ = some (.int .i64 0) := HBD.out.cell 1
  have q2 : w3.cell? ⟨pR, 2, none⟩ = some (.int .i64 0) := HBD.out.cell 2
  have f0 := HBD.out.free 0
  have f1 := HBD.out.free 1
  have f2 := HBD.out.free 2
  have HLE : RowKit.Hid (∀ wz, Ext w wz → ∀ a b c, Ext w (((wz.setCell ⟨pR, 0, none⟩ a).setCell ⟨pR, 1, none⟩ b).setCell ⟨pR, 2, none⟩ c)) := Lib.hid (fun wz h a b c => Below.setCell (Below.setCell (Below.setCell h (p := ⟨pR, 0, none⟩) hpR a) (p := ⟨pR, 1, none⟩) hpR b) (p := ⟨pR, 2, none⟩) hpR c)
  have Q0 : ∀ n, (w3.drewN n).cell? ⟨pR, 0, none⟩ = some (.string ⟨#[]⟩) := fun n => (Wire.ext_drewN w3 n).cell q0
  have Q1 : ∀ n, (w3.drewN n).cell? ⟨pR, 1, none⟩ = some (.int .i64 0) := fun n => (Wire.ext_drewN w3 n).cell q1
  have Q2 : ∀ n, (w3.drewN n).cell? ⟨pR, 2, none⟩ = some (.int .i64 0) := fun n => (Wire.ext_drewN w3 n).cell q2
  by_cases hke : k = l.length
  · have dk1 : decide ((k : Int) = (l.length : Int)) = true := by simp; omega
    have dk2 : ((k : Int) == (l.length : Int)) = true := by simp; omega
    have hno : ∀ i, i < l.length → (l.getD i e0).1 ≠ nm := fun i hi hq => by
      have := HLT.out i (by omega)
      rw [hq, less_irrefl] at this; cases this
    have HNO := Lib.hid hno
    clear hno hke
    go_wp2_with fail
    go_quiet (fail)
    go_wp2_with fail
    refine bodyPost_ret (v := .tuple #[.agg #[.string ⟨#[]⟩, .int .i64 0, .int .i64 0], .bool false]) (by simp [results, Try.results28, go_sem, Q0, Q1, Q2]) rfl ⟨.inr ⟨HNO.out, rfl⟩, HLE.out _ (Ext.trans _ _ _ XD.out (Wire.ext_drewN _ _)) _ _ _⟩
  · have hkl : k < l.length := by omega
    have dk1 : decide ((k : Int) = (l.length : Int)) = false := by simp; omega
    have dk2 : ((k : Int) == (l.length : Int)) = false := by simp; omega
    have dk3 := nat_lt_of hkl
    have dk4 : (k : Int) < (l.length : Int) := by omega
    obtain ⟨b, o, rfl, _, c0, c1, c2⟩ := HR.out.ext XD.out k hkl
    have hxn := HNM.out _ (getD_mem hkl)
    by_cases hxe : (l.getD k e0).1 = nm
    · have hse := str_eq hxe
      have HXE := Lib.hid hxe
      have HXX : RowKit.Hid (∃ i, i < l.length ∧ (l.getD i e0).1 = nm ∧ (.returned (.tuple #[.agg #[.string (strOfNums (l.getD k e0).1), .int .i64 (l.getD k e0).2.1, .int .i64 (l.getD k e0).2.2], .bool true]) : Ending) = .returned (.tuple #[.agg #[.string (strOfNums (l.getD i e0).1), .int .i64 (l.getD i e0).2.1, .int .i64 (l.getD i e0).2.2], .bool true])) := Lib.hid ⟨k, hkl, hxe, rfl⟩
      obtain ⟨x, hx⟩ : ∃ x, l.getD k e0 = x := ⟨_, rfl⟩
      rw [hx] at c0 c1 c2 hse HXX
      clear hxe hxn HXE hx
      go_wp2_with fail
      go_quiet (fail)
      go_wp2_with fail
      refine bodyPost_ret (v := .tuple #[.agg #[.string (strOfNums x.1), .int .i64 x.2.1, .int .i64 x.2.2], .bool true]) (by simp [results, Try.results28, go_sem, Q0, Q1, Q2]) rfl ⟨.inl HXX.out, HLE.out _ (Ext.trans _ _ _ XD.out (Wire.ext_drewN _ _)) _ _ _⟩
    · have hse := Own.str_ne hxn HNB.out hxe
      have hno : ∀ i, i < l.length → (l.getD i e0).1 ≠ nm := fun i hi hq => by
        rcases Nat.lt_trichotomy i k with y | y | y
        · have := HLT.out i y
          rw [hq, less_irrefl] at this; cases this
        · subst y; exact hxe hq
        · have h1 := rise HCK.out y hi
          rw [hq, HGE.out hkl] at h1; cases h1
      have HNO := Lib.hid hno
      obtain ⟨x, hx⟩ : ∃ x, l.getD k e0 = x := ⟨_, rfl⟩
      rw [hx] at c0 c1 c2 hse
      clear hxe hxn hno hx
      go_wp2_with fail
      go_quiet (fail)
      go_wp2_with fail
      refine bodyPost_ret (v := .tuple #[.agg #[.string ⟨#[]⟩, .int .i64 0, .int .i64 0], .bool false]) (by simp [results, Try.results28, go_sem, Q0, Q1, Q2]) rfl ⟨.inr ⟨HNO.out, rfl⟩, HLE.out _ (Ext.trans _ _ _ XD.out (Wire.ext_drewN _ _)) _ _ _⟩
end Go.Proofs.Ytfpeeilenocaoaa.Idx
