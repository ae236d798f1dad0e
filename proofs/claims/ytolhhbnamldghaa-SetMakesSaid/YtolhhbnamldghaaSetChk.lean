/- Whether numbers rise; whether two rows are the same: what Check and Same tell. -/
import Derived.Test.YtolhhbnamldghaaSetAnd
namespace Go.Proofs.Ytolhhbnamldghaa.Set
open Go.RowKit Go.Proofs.Ytolhhbnamldghaa.Own Go.Proofs.Ytolhhbnamldghaa.Rely
attribute [local go_sem] max_ints min_ints

theorem ext_drewN (w : World) (n : Nat) : Ext w (w.drewN n) := ⟨rfl, rfl, rfl, Nat.le_refl _, fun _ _ => rfl⟩
def checkS (l : List Int) : Int := if 4096 < l.length then 7 else if (List.range (l.length - 1)).all (fun i => l.getD i 0 < l.getD (i + 1) 0) then 0 else 8
theorem checkS_ok {l : List Int} (h : l.length ≤ 4096) (hr : ∀ i, i + 1 < l.length → l.getD i 0 < l.getD (i + 1) 0) : checkS l = 0 := by
  unfold checkS
  rw [if_neg (by omega), if_pos]
  rw [List.all_eq_true]
  intro i hi
  rw [List.mem_range] at hi
  simpa using hr i (by omega)
theorem checkS_asc {l : List Int} (h : l.length ≤ 4096) (hr : Asc l) : checkS l = 0 := checkS_ok h fun i hi => asc_getD hr (Nat.lt_succ_self i) hi
theorem checkS_no {l : List Int} (h : l.length ≤ 4096) {i : Nat} (hi : i + 1 < l.length) (hn : ¬ l.getD i 0 < l.getD (i + 1) 0) : checkS l = 8 := by
  unfold checkS
  rw [if_neg (by omega), if_neg]
  rw [List.all_eq_true]
  intro hall
  have := hall i (by rw [List.mem_range]; omega)
  exact hn (by simpa using this)
theorem checkS_many {l : List Int} (h : 4096 < l.length) : checkS l = 7 := by unfold checkS; rw [if_pos h]
theorem checkS_cases {x : List Int} (h : x.length ≤ 4096) : checkS x = 0 ∨ checkS x = 8 := by
  unfold checkS; rw [if_neg (show ¬ 4096 < x.length by omega)]; split <;> simp

set_option maxHeartbeats 1000000 in
theorem check_c (A : Option Addr) (c : Nat) (l : List Int) (w : World) (hr : Reads w .u32 A l) (hl : l.length ≤ 1000000000) :
    Calls Try.prog 14 #[.slice A l.length c] w fun e w' => e = .returned (.int .i64 (checkS l)) ∧ Ext w w' := by
  have HR := Lib.hid hr
  clear hr
  by_cases h4 : 4096 < l.length
  · have HC := Lib.hid (checkS_many h4)
    go_enter Try.func14, Try.ntmps14
    go_wp2_with fail
    go_ret
    exact ⟨by rw [HC.out]; rfl, Ext.refl _⟩
  go_enter Try.func14, Try.ntmps14
  go_wp2_with fail
  go_loopw [3] (fun i wr => ∃ (k : Nat), 1 ≤ k ∧ i = .int .i64 k ∧ (∀ j, j + 1 < k → l.getD j 0 < l.getD (j + 1) 0) ∧ Ext w wr) (fun i _ => l.length - (intOf i).toNat)
  case atStart => exact ⟨1, Nat.le_refl _, rfl, fun j hj => by omega, Ext.refl _⟩
  case round =>
    obtain ⟨k, hk, rfl, hri, hx⟩ := hrel
    have HI := Lib.hid hri
    have HX := Lib.hid hx
    clear hri hx
    by_cases hlt : k < l.length
    · obtain ⟨q, rfl⟩ : ∃ q, k = q + 1 := ⟨k - 1, by omega⟩
      obtain ⟨b, o, rfl, hbl, cx⟩ := HX.out.reads HR.out (q + 1) hlt
      obtain ⟨b', o', e, _, cy⟩ := HX.out.reads HR.out q (by omega)
      injection e with e
      injection e with e1 e2 _
      subst e1 e2
      obtain ⟨x, hx⟩ : ∃ x, l.getD (q + 1) 0 = x := ⟨_, rfl⟩
      obtain ⟨y, hy⟩ : ∃ y, l.getD q 0 = y := ⟨_, rfl⟩
      rw [hx] at cx
      rw [hy] at cy
      have HXX := Lib.hid hx
      have HYY := Lib.hid hy
      have cx' : wr.cell? ⟨b, o + q + 1, none⟩ = some (.int .u32 x) := by rw [Nat.add_assoc]; exact cx
      have hq1 : ((q + 1 : Nat) : Int) < (l.length : Int) := by omega
      clear hx hy
      by_cases hxy : y < x
      · have hd : decide (x ≤ y) = false := by simp; omega
        clear hxy
        go_wp2_with fail
        go_quiet (fail)
        go_wp2_with fail
        go_roundw
        case rel => 
          refine ⟨q + 2, by omega, by go_num, fun j hj => ?_, Ext.trans _ _ _ HX.out (ext_drewN _ _)⟩
          by_cases hjq : j = q
          · subst hjq; rw [HXX.out, HYY.out]; simpa using hd
          · exact HI.out j (by omega)
        case measure => simp [intOf]; omega
      · have hd : decide (x ≤ y) = true := by simp; omega
        have HC := Lib.hid (checkS_no (by omega) hlt (show ¬ l.getD q 0 < l.getD (q + 1) 0 by rw [HXX.out, HYY.out]; exact hxy))
        clear hxy
        go_wp2_with fail
        go_quiet (fail)
        go_wp2_with fail
        go_ret
        exact ⟨by rw [HC.out]; rfl, Ext.trans _ _ _ HX.out (ext_drewN _ _)⟩
    · have HC := Lib.hid (checkS_ok (l := l) (by omega) (fun i hi => HI.out i (by omega)))
      go_wp2_with fail
      go_ret
      exact ⟨by rw [HC.out]; rfl, HX.out⟩

theorem list_ne {a b : List Int} {i : Nat} (h : a.getD i 0 ≠ b.getD i 0) : a ≠ b := fun e => h (by rw [e])
theorem list_eq {a b : List Int} (hl : a.length = b.length) (h : ∀ i, i < a.length → a.getD i 0 = b.getD i 0) : a = b := by
  apply List.ext_getElem hl
  intro i h1 h2
  have := h i h1
  simpa [List.getD_eq_getElem?_getD, h1, h2] using this
set_option maxHeartbeats 1000000 in
theorem same_c (A B : Option Addr) (c d : Nat) (a b : List Int) (w : World) (hr : Reads w .u32 A a) (hr' : Reads w .u32 B b) (hl : a.length ≤ 1000000000) (hl' : b.length ≤ 1000000000) :
    Calls Try.prog 15 #[.slice A a.length c, .slice B b.length d] w fun e w' => e = .returned (.bool (decide (a = b))) ∧ Ext w w' := by
  have HR := Lib.hid hr
  have HR' := Lib.hid hr'
  clear hr hr'
  by_cases hll : a.length = b.length
  · have hd0 : ((a.length : Int) != (b.length : Int)) = false := by rw [bne_eq_false_iff_eq]; omega
    go_enter Try.func15, Try.ntmps15
    go_wp2_with fail
    go_loopw [13] (fun v wr => ∃ (i : Nat), i ≤ a.length ∧ v = .int .i64 i ∧ (∀ j, j < i → a.getD j 0 = b.getD j 0) ∧ Ext w wr) (fun v _ => a.length - (intOf v).toNat)
    case atStart => exact ⟨0, by omega, rfl, fun j hj => by omega, Ext.refl _⟩
    case round =>
      obtain ⟨i, hi, rfl, hall, hx⟩ := hrel
      have HALL := Lib.hid hall
      have HX := Lib.hid hx
      clear hall hx
      by_cases hlt : i < a.length
      · obtain ⟨b1, o1, rfl, hbl, cx⟩ := HX.out.reads HR.out i hlt
        obtain ⟨b2, o2, rfl, hbl2, cy⟩ := HX.out.reads HR'.out i (by omega)
        have hi1 : (i : Int) < (a.length : Int) := by omega
        have hi2 : (i : Int) < (b.length : Int) := by omega
        obtain ⟨x, hx⟩ : ∃ x, a.getD i 0 = x := ⟨_, rfl⟩
        obtain ⟨y, hy⟩ : ∃ y, b.getD i 0 = y := ⟨_, rfl⟩
        rw [hx] at cx
        rw [hy] at cy
        have HXX := Lib.hid hx
        have HYY := Lib.hid hy
        clear hx hy
        by_cases hxy : x = y
        · have HXY := Lib.hid hxy
          have hd : (x != y) = false := by rw [bne_eq_false_iff_eq]; exact hxy
          clear hxy
          go_wp2_with fail
          go_quiet (fail)
          go_wp2_with fail
          go_roundw
          case rel =>
            refine ⟨i + 1, by omega, by go_num, fun j hj => ?_, Ext.trans _ _ _ HX.out (ext_drewN _ _)⟩
            by_cases hji : j = i
            · subst hji; rw [HXX.out, HYY.out]; exact HXY.out
            · exact HALL.out j (by omega)
          case measure => simp [intOf]; omega
        · have hd : (x != y) = true := by rw [bne_iff_ne]; exact hxy
          have HN := Lib.hid (show decide (a = b) = false from decide_eq_false (list_ne (i := i) (by rw [HXX.out, HYY.out]; exact hxy)))
          clear hxy
          go_wp2_with fail
          go_quiet (fail)
          go_wp2_with fail
          go_ret
          exact ⟨by rw [HN.out]; rfl, Ext.trans _ _ _ HX.out (ext_drewN _ _)⟩
      · obtain rfl : i = a.length := by omega
        have HN := Lib.hid (show decide (a = b) = true from decide_eq_true (list_eq hll HALL.out))
        go_wp2_with fail
        go_ret
        exact ⟨by rw [HN.out]; rfl, HX.out⟩
  · have hd0 : ((a.length : Int) != (b.length : Int)) = true := by rw [bne_iff_ne]; omega
    have HN := Lib.hid (show decide (a = b) = false from decide_eq_false (fun e => hll (by rw [e])))
    go_enter Try.func15, Try.ntmps15
    go_wp2_with fail
    go_ret
    exact ⟨by rw [HN.out]; rfl, Ext.refl _⟩
end Go.Proofs.Ytolhhbnamldghaa.Set
