-- Written by the kit's print.py over texts that my own driver gave it; not typed by hand.
import Derived.Test.YtolhhbnamldghaaPHllPlacesx0
import Derived.Test.YtolhhbnamldghaaPHllPlacesx1
namespace Go.Proofs.Ytolhhbnamldghaa.PHllPlaces
open Go.RowKit Go.Proofs.YtolhhbnamldghaaW.PrintWords Go.Proofs.YtolhhbnamldghaaW.PrintLast Go.Proofs.YtolhhbnamldghaaW.PrintMore
attribute [local go_sem] max2_int min2_int max_two min_two max_three min_three max_four min_four   -- for this text's walks alone
set_option linter.unusedVariables false
set_option linter.unusedSimpArgs false

/-! ### herbariumlaw13_HllPlaces: function 5 -/
def herbariumlaw13_HllPlaces.f (a0 : Int) (a1 : Int) (a2 : Int) : Option (Bool) := (herbariumlaw13_Awake.f).bind fun t113 => (if t113 = true then ((hll_New.f (wrap64 (4 + (wrap64 (Int.tmod a0 5))))).bind fun bt114 => ((hll_Hll_Place.f bt114.1 bt114.2.1 a1).bind fun bt120 => (if 0 ≤ (wrap64 (64 - bt114.1)) then (if 0 ≤ bt114.1 then (if 0 ≤ (Int.tmod a2 8) then ((hll_Hll_Place.f bt114.1 bt114.2.1 (Go.bits .or .u64 (shl .u64 (shr .u64 a1 (wrap64 (64 - bt114.1))) (wrap64 (64 - bt114.1))) (shr .u64 (shr .u64 (shl .u64 a1 bt114.1) bt114.1) (Int.tmod a2 8)))).bind fun bt122 => ((hll_Hll_Place.f bt114.1 bt114.2.1 (shl .u64 (shr .u64 a1 (wrap64 (64 - bt114.1))) (wrap64 (64 - bt114.1)))).bind fun bt124 => (if bt114.2.2 = true then (if bt120.1 = bt122.1 then (if bt120.1 = bt124.1 then ((hll_Hll_Top.f bt114.1 bt114.2.1).bind fun t126 => (if (wrap64 (bt124.2)) = t126 then (if bt120.1 < (shl .i64 1 bt114.1) then (if bt120.2 ≥ 1 then ((hll_Hll_Top.f bt114.1 bt114.2.1).bind fun t127 => (if (wrap64 (bt120.2)) ≤ t127 then ((hll_Hll_Top.f bt114.1 bt114.2.1).bind fun t128 => (some ((wrap64 (bt122.2)) == (mn (wrap64 ((wrap64 (bt120.2)) + (wrap64 (Int.tmod a2 8)))) t128)))) else (some false))) else (some false)) else (some false)) else (some false))) else (some false)) else (some false)) else (some false)))) else (none)) else (none)) else (none)))) else (some false))
def herbariumlaw13_HllPlaces.T5 : Bool × List (List Nat × List Nat) := (true, [([], []), ([], []), ([], []), ([2], [2]), ([3], [3]), ([1, 4], [1, 4]), ([], []), ([6], [6]), ([7], [7]), ([5, 8], [5, 8]), ([], []), ([], []), ([11], [11]), ([10, 12], [10, 12]), ([], []), ([14], [14]), ([13, 15], [13, 15]), ([], []), ([17], [17]), ([16, 18], [16, 18]), ([9, 19], [9, 19]), ([0, 20], [0, 20]), ([21], [21]), ([22], [22]), ([22], [22]), ([23, 21, 0, 1, 2, 3, 4, 5, 6, 7, 8, 9, 10, 11, 12, 13, 14, 15, 16, 17, 18, 19, 20, 21, 22, 23], [23]), ([24, 25, 0, 1, 2, 3, 4, 5, 6, 7, 8, 9, 10, 11, 12, 13, 14, 15, 16, 17, 18, 19, 20, 21, 22, 23, 24, 25], [24])])
def herbariumlaw13_HllPlaces.B5 : List Nat := [0, 0, 0, 4, 12, 30, 0, 64, 192, 510, 0, 0, 2048, 7168, 0, 16384, 64512, 0, 131072, 523264, 1048574, 2097151, 4194303, 8388607, 8388607, 16777215, 67108863]
theorem herbariumlaw13_HllPlaces.tab5 : rtab .any (opsOf Try.f5 5) = herbariumlaw13_HllPlaces.T5 := by kernel_rfl
theorem herbariumlaw13_HllPlaces.bits5 : waitsOk herbariumlaw13_HllPlaces.T5.2 herbariumlaw13_HllPlaces.B5 = true := by kernel_rfl
def herbariumlaw13_HllPlaces.T6 : Bool × List (List Nat × List Nat) := (true, [([], []), ([], []), ([], []), ([2], [2]), ([3], [3]), ([1, 4], [1, 4]), ([], []), ([6], [6]), ([7], [7]), ([5, 8], [5, 8]), ([0, 9], [0, 9]), ([10], [10]), ([11], [11]), ([11], [11]), ([12, 10, 0, 1, 2, 3, 4, 5, 6, 7, 8, 9, 10, 11, 12], [12]), ([13, 14, 0, 1, 2, 3, 4, 5, 6, 7, 8, 9, 10, 11, 12, 13, 14], [13])])
def herbariumlaw13_HllPlaces.B6 : List Nat := [0, 0, 0, 4, 12, 30, 0, 64, 192, 510, 1023, 2047, 4095, 4095, 8191, 32767]
theorem herbariumlaw13_HllPlaces.tab6 : rtab .any (opsOf Try.f5 6) = herbariumlaw13_HllPlaces.T6 := by kernel_rfl
theorem herbariumlaw13_HllPlaces.bits6 : waitsOk herbariumlaw13_HllPlaces.T6.2 herbariumlaw13_HllPlaces.B6 = true := by kernel_rfl
set_option maxHeartbeats 8000000 in
set_option maxRecDepth 100000 in
theorem herbariumlaw13_HllPlaces.calls (a0 : Int) (a1 : Int) (a2 : Int) (r : Bool) (w : World) (h : herbariumlaw13_HllPlaces.f a0 a1 a2 = some r) (hrt : r = true) :
    Calls Try.prog 5 #[.int .u8 a0, .int .u64 a1, .int .u8 a2] w fun e w' => e = .returned (.bool r) ∧ Below w.heap.size w w' := by
  have HRT_ := Aside0.mk hrt
  clear hrt
  have hu35 := Try.underlying35
  have HB := Aside0.mk (Below.refl w.heap.size w)
  have H : ((herbariumlaw13_Awake.f).bind fun t113 => (if t113 = true then ((hll_New.f (wrap64 (4 + (wrap64 (Int.tmod a0 5))))).bind fun bt114 => ((hll_Hll_Place.f bt114.1 bt114.2.1 a1).bind fun bt120 => (if 0 ≤ (wrap64 (64 - bt114.1)) then (if 0 ≤ bt114.1 then (if 0 ≤ (Int.tmod a2 8) then ((hll_Hll_Place.f bt114.1 bt114.2.1 (Go.bits .or .u64 (shl .u64 (shr .u64 a1 (wrap64 (64 - bt114.1))) (wrap64 (64 - bt114.1))) (shr .u64 (shr .u64 (shl .u64 a1 bt114.1) bt114.1) (Int.tmod a2 8)))).bind fun bt122 => ((hll_Hll_Place.f bt114.1 bt114.2.1 (shl .u64 (shr .u64 a1 (wrap64 (64 - bt114.1))) (wrap64 (64 - bt114.1)))).bind fun bt124 => (if bt114.2.2 = true then (if bt120.1 = bt122.1 then (if bt120.1 = bt124.1 then ((hll_Hll_Top.f bt114.1 bt114.2.1).bind fun t126 => (if (wrap64 (bt124.2)) = t126 then (if bt120.1 < (shl .i64 1 bt114.1) then (if bt120.2 ≥ 1 then ((hll_Hll_Top.f bt114.1 bt114.2.1).bind fun t127 => (if (wrap64 (bt120.2)) ≤ t127 then ((hll_Hll_Top.f bt114.1 bt114.2.1).bind fun t128 => (some ((wrap64 (bt122.2)) == (mn (wrap64 ((wrap64 (bt120.2)) + (wrap64 (Int.tmod a2 8)))) t128)))) else (some false))) else (some false)) else (some false)) else (some false))) else (some false)) else (some false)) else (some false)))) else (none)) else (none)) else (none)))) else (some false))) = some r := h
  clear h
  replace H := Option.bind_eq_some_iff.mp H
  obtain ⟨t113, A40, H⟩ := H
  replace H : (if t113 = true then ((hll_New.f (wrap64 (4 + (wrap64 (Int.tmod a0 5))))).bind fun bt114 => ((hll_Hll_Place.f bt114.1 bt114.2.1 a1).bind fun bt120 => (if 0 ≤ (wrap64 (64 - bt114.1)) then (if 0 ≤ bt114.1 then (if 0 ≤ (Int.tmod a2 8) then ((hll_Hll_Place.f bt114.1 bt114.2.1 (Go.bits .or .u64 (shl .u64 (shr .u64 a1 (wrap64 (64 - bt114.1))) (wrap64 (64 - bt114.1))) (shr .u64 (shr .u64 (shl .u64 a1 bt114.1) bt114.1) (Int.tmod a2 8)))).bind fun bt122 => ((hll_Hll_Place.f bt114.1 bt114.2.1 (shl .u64 (shr .u64 a1 (wrap64 (64 - bt114.1))) (wrap64 (64 - bt114.1)))).bind fun bt124 => (if bt114.2.2 = true then (if bt120.1 = bt122.1 then (if bt120.1 = bt124.1 then ((hll_Hll_Top.f bt114.1 bt114.2.1).bind fun t126 => (if (wrap64 (bt124.2)) = t126 then (if bt120.1 < (shl .i64 1 bt114.1) then (if bt120.2 ≥ 1 then ((hll_Hll_Top.f bt114.1 bt114.2.1).bind fun t127 => (if (wrap64 (bt120.2)) ≤ t127 then ((hll_Hll_Top.f bt114.1 bt114.2.1).bind fun t128 => (some ((wrap64 (bt122.2)) == (mn (wrap64 ((wrap64 (bt120.2)) + (wrap64 (Int.tmod a2 8)))) t128)))) else (some false))) else (some false)) else (some false)) else (some false))) else (some false)) else (some false)) else (some false)))) else (none)) else (none)) else (none)))) else (some false)) = some r := H
  have A4 := Aside0.mk A40
  clear A40
  by_cases c5 : t113 = true
  · subst c5
    have H1 : ((hll_New.f (wrap64 (4 + (wrap64 (Int.tmod a0 5))))).bind fun bt114 => ((hll_Hll_Place.f bt114.1 bt114.2.1 a1).bind fun bt120 => (if 0 ≤ (wrap64 (64 - bt114.1)) then (if 0 ≤ bt114.1 then (if 0 ≤ (Int.tmod a2 8) then ((hll_Hll_Place.f bt114.1 bt114.2.1 (Go.bits .or .u64 (shl .u64 (shr .u64 a1 (wrap64 (64 - bt114.1))) (wrap64 (64 - bt114.1))) (shr .u64 (shr .u64 (shl .u64 a1 bt114.1) bt114.1) (Int.tmod a2 8)))).bind fun bt122 => ((hll_Hll_Place.f bt114.1 bt114.2.1 (shl .u64 (shr .u64 a1 (wrap64 (64 - bt114.1))) (wrap64 (64 - bt114.1)))).bind fun bt124 => (if bt114.2.2 = true then (if bt120.1 = bt122.1 then (if bt120.1 = bt124.1 then ((hll_Hll_Top.f bt114.1 bt114.2.1).bind fun t126 => (if (wrap64 (bt124.2)) = t126 then (if bt120.1 < (shl .i64 1 bt114.1) then (if bt120.2 ≥ 1 then ((hll_Hll_Top.f bt114.1 bt114.2.1).bind fun t127 => (if (wrap64 (bt120.2)) ≤ t127 then ((hll_Hll_Top.f bt114.1 bt114.2.1).bind fun t128 => (some ((wrap64 (bt122.2)) == (mn (wrap64 ((wrap64 (bt120.2)) + (wrap64 (Int.tmod a2 8)))) t128)))) else (some false))) else (some false)) else (some false)) else (some false))) else (some false)) else (some false)) else (some false)))) else (none)) else (none)) else (none)))) = some r := by rw [if_pos rfl] at H; exact H
    clear H
    have H := H1
    clear H1
    replace H := Option.bind_eq_some_iff.mp H
    obtain ⟨⟨t114, t115, t118⟩, A60, H⟩ := H
    replace H : ((hll_Hll_Place.f t114 t115 a1).bind fun bt120 => (if 0 ≤ (wrap64 (64 - t114)) then (if 0 ≤ t114 then (if 0 ≤ (Int.tmod a2 8) then ((hll_Hll_Place.f t114 t115 (Go.bits .or .u64 (shl .u64 (shr .u64 a1 (wrap64 (64 - t114))) (wrap64 (64 - t114))) (shr .u64 (shr .u64 (shl .u64 a1 t114) t114) (Int.tmod a2 8)))).bind fun bt122 => ((hll_Hll_Place.f t114 t115 (shl .u64 (shr .u64 a1 (wrap64 (64 - t114))) (wrap64 (64 - t114)))).bind fun bt124 => (if t118 = true then (if bt120.1 = bt122.1 then (if bt120.1 = bt124.1 then ((hll_Hll_Top.f t114 t115).bind fun t126 => (if (wrap64 (bt124.2)) = t126 then (if bt120.1 < (shl .i64 1 t114) then (if bt120.2 ≥ 1 then ((hll_Hll_Top.f t114 t115).bind fun t127 => (if (wrap64 (bt120.2)) ≤ t127 then ((hll_Hll_Top.f t114 t115).bind fun t128 => (some ((wrap64 (bt122.2)) == (mn (wrap64 ((wrap64 (bt120.2)) + (wrap64 (Int.tmod a2 8)))) t128)))) else (some false))) else (some false)) else (some false)) else (some false))) else (some false)) else (some false)) else (some false)))) else (none)) else (none)) else (none))) = some r := H
    have A6 := Aside0.mk A60
    clear A60
    replace H := Option.bind_eq_some_iff.mp H
    obtain ⟨⟨t120, t121⟩, A70, H⟩ := H
    replace H : (if 0 ≤ (wrap64 (64 - t114)) then (if 0 ≤ t114 then (if 0 ≤ (Int.tmod a2 8) then ((hll_Hll_Place.f t114 t115 (Go.bits .or .u64 (shl .u64 (shr .u64 a1 (wrap64 (64 - t114))) (wrap64 (64 - t114))) (shr .u64 (shr .u64 (shl .u64 a1 t114) t114) (Int.tmod a2 8)))).bind fun bt122 => ((hll_Hll_Place.f t114 t115 (shl .u64 (shr .u64 a1 (wrap64 (64 - t114))) (wrap64 (64 - t114)))).bind fun bt124 => (if t118 = true then (if t120 = bt122.1 then (if t120 = bt124.1 then ((hll_Hll_Top.f t114 t115).bind fun t126 => (if (wrap64 (bt124.2)) = t126 then (if t120 < (shl .i64 1 t114) then (if t121 ≥ 1 then ((hll_Hll_Top.f t114 t115).bind fun t127 => (if (wrap64 (t121)) ≤ t127 then ((hll_Hll_Top.f t114 t115).bind fun t128 => (some ((wrap64 (bt122.2)) == (mn (wrap64 ((wrap64 (t121)) + (wrap64 (Int.tmod a2 8)))) t128)))) else (some false))) else (some false)) else (some false)) else (some false))) else (some false)) else (some false)) else (some false)))) else (none)) else (none)) else (none)) = some r := H
    have A7 := Aside0.mk A70
    clear A70
    obtain ⟨ji8, hji8⟩ : ∃ j_ : Int, (wrap64 (64 - t114)) = j_ := ⟨_, rfl⟩
    replace H : (if 0 ≤ (ji8) then (if 0 ≤ t114 then (if 0 ≤ (Int.tmod a2 8) then ((hll_Hll_Place.f t114 t115 (Go.bits .or .u64 (shl .u64 (shr .u64 a1 (ji8)) (ji8)) (shr .u64 (shr .u64 (shl .u64 a1 t114) t114) (Int.tmod a2 8)))).bind fun bt122 => ((hll_Hll_Place.f t114 t115 (shl .u64 (shr .u64 a1 (ji8)) (ji8))).bind fun bt124 => (if t118 = true then (if t120 = bt122.1 then (if t120 = bt124.1 then ((hll_Hll_Top.f t114 t115).bind fun t126 => (if (wrap64 (bt124.2)) = t126 then (if t120 < (shl .i64 1 t114) then (if t121 ≥ 1 then ((hll_Hll_Top.f t114 t115).bind fun t127 => (if (wrap64 (t121)) ≤ t127 then ((hll_Hll_Top.f t114 t115).bind fun t128 => (some ((wrap64 (bt122.2)) == (mn (wrap64 ((wrap64 (t121)) + (wrap64 (Int.tmod a2 8)))) t128)))) else (some false))) else (some false)) else (some false)) else (some false))) else (some false)) else (some false)) else (some false)))) else (none)) else (none)) else (none)) = some r := by first | (rw [hji8] at H; exact H) | (simp only [hji8] at H ⊢; exact H)
    (try rw [hji8] at A4)
    (try rw [hji8] at A6)
    (try rw [hji8] at A7)
    have hji8w : (IntKind.i64.wrap (64 - t114)) = ji8 := (i64_w _).trans hji8
    by_cases c9 : 0 ≤ (ji8)
    · rw [if_pos c9] at H
      have c9b0 := eq_true c9
      have c9b1 : decide (0 ≤ (ji8)) = true := decide_eq_true c9
      clear c9
      obtain ⟨ji10, hji10⟩ : ∃ j_ : Int, (shr .u64 a1 (ji8)) = j_ := ⟨_, rfl⟩
      replace H : (if 0 ≤ t114 then (if 0 ≤ (Int.tmod a2 8) then ((hll_Hll_Place.f t114 t115 (Go.bits .or .u64 (shl .u64 (ji10) (ji8)) (shr .u64 (shr .u64 (shl .u64 a1 t114) t114) (Int.tmod a2 8)))).bind fun bt122 => ((hll_Hll_Place.f t114 t115 (shl .u64 (ji10) (ji8))).bind fun bt124 => (if t118 = true then (if t120 = bt122.1 then (if t120 = bt124.1 then ((hll_Hll_Top.f t114 t115).bind fun t126 => (if (wrap64 (bt124.2)) = t126 then (if t120 < (shl .i64 1 t114) then (if t121 ≥ 1 then ((hll_Hll_Top.f t114 t115).bind fun t127 => (if (wrap64 (t121)) ≤ t127 then ((hll_Hll_Top.f t114 t115).bind fun t128 => (some ((wrap64 (bt122.2)) == (mn (wrap64 ((wrap64 (t121)) + (wrap64 (Int.tmod a2 8)))) t128)))) else (some false))) else (some false)) else (some false)) else (some false))) else (some false)) else (some false)) else (some false)))) else (none)) else (none)) = some r := by first | (rw [hji10] at H; exact H) | (simp only [hji10] at H ⊢; exact H)
      (try rw [hji10] at A4)
      (try rw [hji10] at A6)
      (try rw [hji10] at A7)
      have hji10_ : (a1 / 2 ^ min (ji8).toNat 64) = ji10 := hji10
      have hji10z : (ji8) ≤ 64 → (a1 / 2 ^ (ji8).toNat) = ji10 := shr_small hji10
      have c11b0 := eq_true (of_decide_eq_true (by first | (with_reducible assumption) | assumption) : 0 ≤ (ji8))
      obtain ⟨ji12, hji12⟩ : ∃ j_ : Int, (shl .u64 (ji10) (ji8)) = j_ := ⟨_, rfl⟩
      replace H : (if 0 ≤ t114 then (if 0 ≤ (Int.tmod a2 8) then ((hll_Hll_Place.f t114 t115 (Go.bits .or .u64 (ji12) (shr .u64 (shr .u64 (shl .u64 a1 t114) t114) (Int.tmod a2 8)))).bind fun bt122 => ((hll_Hll_Place.f t114 t115 (ji12)).bind fun bt124 => (if t118 = true then (if t120 = bt122.1 then (if t120 = bt124.1 then ((hll_Hll_Top.f t114 t115).bind fun t126 => (if (wrap64 (bt124.2)) = t126 then (if t120 < (shl .i64 1 t114) then (if t121 ≥ 1 then ((hll_Hll_Top.f t114 t115).bind fun t127 => (if (wrap64 (t121)) ≤ t127 then ((hll_Hll_Top.f t114 t115).bind fun t128 => (some ((wrap64 (bt122.2)) == (mn (wrap64 ((wrap64 (t121)) + (wrap64 (Int.tmod a2 8)))) t128)))) else (some false))) else (some false)) else (some false)) else (some false))) else (some false)) else (some false)) else (some false)))) else (none)) else (none)) = some r := by first | (rw [hji12] at H; exact H) | (simp only [hji12] at H ⊢; exact H)
      (try rw [hji12] at A4)
      (try rw [hji12] at A6)
      (try rw [hji12] at A7)
      have hji12_ : (IntKind.u64.wrap ((ji10) * 2 ^ min (ji8).toNat 64)) = ji12 := hji12
      have hji12z : (ji8) ≤ 64 → (IntKind.u64.wrap ((ji10) * 2 ^ (ji8).toNat)) = ji12 := shl_small hji12
      by_cases c13 : 0 ≤ t114
      · rw [if_pos c13] at H
        have c13b0 := eq_true c13
        have c13b1 : decide (0 ≤ t114) = true := decide_eq_true c13
        clear c13
        obtain ⟨ji14, hji14⟩ : ∃ j_ : Int, (shl .u64 a1 t114) = j_ := ⟨_, rfl⟩
        replace H : (if 0 ≤ (Int.tmod a2 8) then ((hll_Hll_Place.f t114 t115 (Go.bits .or .u64 (ji12) (shr .u64 (shr .u64 (ji14) t114) (Int.tmod a2 8)))).bind fun bt122 => ((hll_Hll_Place.f t114 t115 (ji12)).bind fun bt124 => (if t118 = true then (if t120 = bt122.1 then (if t120 = bt124.1 then ((hll_Hll_Top.f t114 t115).bind fun t126 => (if (wrap64 (bt124.2)) = t126 then (if t120 < (shl .i64 1 t114) then (if t121 ≥ 1 then ((hll_Hll_Top.f t114 t115).bind fun t127 => (if (wrap64 (t121)) ≤ t127 then ((hll_Hll_Top.f t114 t115).bind fun t128 => (some ((wrap64 (bt122.2)) == (mn (wrap64 ((wrap64 (t121)) + (wrap64 (Int.tmod a2 8)))) t128)))) else (some false))) else (some false)) else (some false)) else (some false))) else (some false)) else (some false)) else (some false)))) else (none)) = some r := by first | (rw [hji14] at H; exact H) | (simp only [hji14] at H ⊢; exact H)
        (try rw [hji14] at A4)
        (try rw [hji14] at A6)
        (try rw [hji14] at A7)
        have hji14_ : (IntKind.u64.wrap (a1 * 2 ^ min t114.toNat 64)) = ji14 := hji14
        have hji14z : t114 ≤ 64 → (IntKind.u64.wrap (a1 * 2 ^ t114.toNat)) = ji14 := shl_small hji14
        have c15b0 := eq_true (of_decide_eq_true (by first | (with_reducible assumption) | assumption) : 0 ≤ t114)
        obtain ⟨ji16, hji16⟩ : ∃ j_ : Int, (shr .u64 (ji14) t114) = j_ := ⟨_, rfl⟩
        replace H : (if 0 ≤ (Int.tmod a2 8) then ((hll_Hll_Place.f t114 t115 (Go.bits .or .u64 (ji12) (shr .u64 (ji16) (Int.tmod a2 8)))).bind fun bt122 => ((hll_Hll_Place.f t114 t115 (ji12)).bind fun bt124 => (if t118 = true then (if t120 = bt122.1 then (if t120 = bt124.1 then ((hll_Hll_Top.f t114 t115).bind fun t126 => (if (wrap64 (bt124.2)) = t126 then (if t120 < (shl .i64 1 t114) then (if t121 ≥ 1 then ((hll_Hll_Top.f t114 t115).bind fun t127 => (if (wrap64 (t121)) ≤ t127 then ((hll_Hll_Top.f t114 t115).bind fun t128 => (some ((wrap64 (bt122.2)) == (mn (wrap64 ((wrap64 (t121)) + (wrap64 (Int.tmod a2 8)))) t128)))) else (some false))) else (some false)) else (some false)) else (some false))) else (some false)) else (some false)) else (some false)))) else (none)) = some r := by first | (rw [hji16] at H; exact H) | (simp only [hji16] at H ⊢; exact H)
        (try rw [hji16] at A4)
        (try rw [hji16] at A6)
        (try rw [hji16] at A7)
        have hji16_ : ((ji14) / 2 ^ min t114.toNat 64) = ji16 := hji16
        have hji16z : t114 ≤ 64 → ((ji14) / 2 ^ t114.toNat) = ji16 := shr_small hji16
        obtain ⟨ji17, hji17⟩ : ∃ j_ : Int, (Int.tmod a2 8) = j_ := ⟨_, rfl⟩
        replace H : (if 0 ≤ (ji17) then ((hll_Hll_Place.f t114 t115 (Go.bits .or .u64 (ji12) (shr .u64 (ji16) (ji17)))).bind fun bt122 => ((hll_Hll_Place.f t114 t115 (ji12)).bind fun bt124 => (if t118 = true then (if t120 = bt122.1 then (if t120 = bt124.1 then ((hll_Hll_Top.f t114 t115).bind fun t126 => (if (wrap64 (bt124.2)) = t126 then (if t120 < (shl .i64 1 t114) then (if t121 ≥ 1 then ((hll_Hll_Top.f t114 t115).bind fun t127 => (if (wrap64 (t121)) ≤ t127 then ((hll_Hll_Top.f t114 t115).bind fun t128 => (some ((wrap64 (bt122.2)) == (mn (wrap64 ((wrap64 (t121)) + (wrap64 (ji17)))) t128)))) else (some false))) else (some false)) else (some false)) else (some false))) else (some false)) else (some false)) else (some false)))) else (none)) = some r := by first | (rw [hji17] at H; exact H) | (simp only [hji17] at H ⊢; exact H)
        (try rw [hji17] at A4)
        (try rw [hji17] at A6)
        (try rw [hji17] at A7)
        by_cases c18 : 0 ≤ (ji17)
        · rw [if_pos c18] at H
          have c18b0 := eq_true c18
          have c18b1 : decide (0 ≤ (ji17)) = true := decide_eq_true c18
          clear c18
          obtain ⟨ji19, hji19⟩ : ∃ j_ : Int, (shr .u64 (ji16) (ji17)) = j_ := ⟨_, rfl⟩
          replace H : ((hll_Hll_Place.f t114 t115 (Go.bits .or .u64 (ji12) (ji19))).bind fun bt122 => ((hll_Hll_Place.f t114 t115 (ji12)).bind fun bt124 => (if t118 = true then (if t120 = bt122.1 then (if t120 = bt124.1 then ((hll_Hll_Top.f t114 t115).bind fun t126 => (if (wrap64 (bt124.2)) = t126 then (if t120 < (shl .i64 1 t114) then (if t121 ≥ 1 then ((hll_Hll_Top.f t114 t115).bind fun t127 => (if (wrap64 (t121)) ≤ t127 then ((hll_Hll_Top.f t114 t115).bind fun t128 => (some ((wrap64 (bt122.2)) == (mn (wrap64 ((wrap64 (t121)) + (wrap64 (ji17)))) t128)))) else (some false))) else (some false)) else (some false)) else (some false))) else (some false)) else (some false)) else (some false)))) = some r := by first | (rw [hji19] at H; exact H) | (simp only [hji19] at H ⊢; exact H)
          (try rw [hji19] at A4)
          (try rw [hji19] at A6)
          (try rw [hji19] at A7)
          have hji19_ : ((ji16) / 2 ^ min (ji17).toNat 64) = ji19 := hji19
          have hji19z : (ji17) ≤ 64 → ((ji16) / 2 ^ (ji17).toNat) = ji19 := shr_small hji19
          replace H := Option.bind_eq_some_iff.mp H
          obtain ⟨⟨t122, t123⟩, A200, H⟩ := H
          replace H : ((hll_Hll_Place.f t114 t115 (ji12)).bind fun bt124 => (if t118 = true then (if t120 = t122 then (if t120 = bt124.1 then ((hll_Hll_Top.f t114 t115).bind fun t126 => (if (wrap64 (bt124.2)) = t126 then (if t120 < (shl .i64 1 t114) then (if t121 ≥ 1 then ((hll_Hll_Top.f t114 t115).bind fun t127 => (if (wrap64 (t121)) ≤ t127 then ((hll_Hll_Top.f t114 t115).bind fun t128 => (some ((wrap64 (t123)) == (mn (wrap64 ((wrap64 (t121)) + (wrap64 (ji17)))) t128)))) else (some false))) else (some false)) else (some false)) else (some false))) else (some false)) else (some false)) else (some false))) = some r := H
          have A20 := Aside0.mk A200
          clear A200
          have c21b0 := eq_true (of_decide_eq_true (by first | (with_reducible assumption) | assumption) : 0 ≤ (ji8))
          have c23b0 := eq_true (of_decide_eq_true (by first | (with_reducible assumption) | assumption) : 0 ≤ (ji8))
          replace H := Option.bind_eq_some_iff.mp H
          obtain ⟨⟨t124, t125⟩, A250, H⟩ := H
          replace H : (if t118 = true then (if t120 = t122 then (if t120 = t124 then ((hll_Hll_Top.f t114 t115).bind fun t126 => (if (wrap64 (t125)) = t126 then (if t120 < (shl .i64 1 t114) then (if t121 ≥ 1 then ((hll_Hll_Top.f t114 t115).bind fun t127 => (if (wrap64 (t121)) ≤ t127 then ((hll_Hll_Top.f t114 t115).bind fun t128 => (some ((wrap64 (t123)) == (mn (wrap64 ((wrap64 (t121)) + (wrap64 (ji17)))) t128)))) else (some false))) else (some false)) else (some false)) else (some false))) else (some false)) else (some false)) else (some false)) = some r := H
          have A25 := Aside0.mk A250
          clear A250
          by_cases c26 : t118 = true
          · subst c26
            have H1 : (if t120 = t122 then (if t120 = t124 then ((hll_Hll_Top.f t114 t115).bind fun t126 => (if (wrap64 (t125)) = t126 then (if t120 < (shl .i64 1 t114) then (if t121 ≥ 1 then ((hll_Hll_Top.f t114 t115).bind fun t127 => (if (wrap64 (t121)) ≤ t127 then ((hll_Hll_Top.f t114 t115).bind fun t128 => (some ((wrap64 (t123)) == (mn (wrap64 ((wrap64 (t121)) + (wrap64 (ji17)))) t128)))) else (some false))) else (some false)) else (some false)) else (some false))) else (some false)) else (some false)) = some r := by rw [if_pos rfl] at H; exact H
            clear H
            have H := H1
            clear H1
            by_cases c27 : t120 = t122
            · rw [if_pos c27] at H
              have c27b0 : (t120 == t122) = true := beq_iff_eq.mpr c27
              have c27b1 : (t120 != t122) = false := bne_eq_false_iff_eq.mpr c27
              clear c27
              by_cases c28 : t120 = t124
              · rw [if_pos c28] at H
                have c28b0 : (t120 == t124) = true := beq_iff_eq.mpr c28
                have c28b1 : (t120 != t124) = false := bne_eq_false_iff_eq.mpr c28
                clear c28
                replace H := Option.bind_eq_some_iff.mp H
                obtain ⟨t126, A290, H⟩ := H
                replace H : (if (wrap64 (t125)) = t126 then (if t120 < (shl .i64 1 t114) then (if t121 ≥ 1 then ((hll_Hll_Top.f t114 t115).bind fun t127 => (if (wrap64 (t121)) ≤ t127 then ((hll_Hll_Top.f t114 t115).bind fun t128 => (some ((wrap64 (t123)) == (mn (wrap64 ((wrap64 (t121)) + (wrap64 (ji17)))) t128)))) else (some false))) else (some false)) else (some false)) else (some false)) = some r := H
                have A29 := Aside0.mk A290
                clear A290
                by_cases c30 : (wrap64 (t125)) = t126
                · rw [if_pos c30] at H
                  have c30b0 : ((wrap64 (t125)) == t126) = true := beq_iff_eq.mpr c30
                  have c30b1 : ((wrap64 (t125)) != t126) = false := bne_eq_false_iff_eq.mpr c30
                  clear c30
                  have c31b0 := eq_true (of_decide_eq_true (by first | (with_reducible assumption) | assumption) : 0 ≤ t114)
                  obtain ⟨ji32, hji32⟩ : ∃ j_ : Int, (shl .i64 1 t114) = j_ := ⟨_, rfl⟩
                  replace H : (if t120 < (ji32) then (if t121 ≥ 1 then ((hll_Hll_Top.f t114 t115).bind fun t127 => (if (wrap64 (t121)) ≤ t127 then ((hll_Hll_Top.f t114 t115).bind fun t128 => (some ((wrap64 (t123)) == (mn (wrap64 ((wrap64 (t121)) + (wrap64 (ji17)))) t128)))) else (some false))) else (some false)) else (some false)) = some r := by first | (rw [hji32] at H; exact H) | (simp only [hji32] at H ⊢; exact H)
                  (try rw [hji32] at A4)
                  (try rw [hji32] at A6)
                  (try rw [hji32] at A7)
                  (try rw [hji32] at A20)
                  (try rw [hji32] at A25)
                  (try rw [hji32] at A29)
                  have hji32_ : (IntKind.i64.wrap (1 * 2 ^ min t114.toNat 64)) = ji32 := hji32
                  have hji32z : t114 ≤ 64 → (IntKind.i64.wrap (1 * 2 ^ t114.toNat)) = ji32 := shl_small hji32
                  have hji32u : (IntKind.i64.wrap (2 ^ min t114.toNat 64)) = ji32 := by have h_ := hji32_; rw [Int.one_mul] at h_; exact h_
                  have hji32v : t114 ≤ 64 → (IntKind.i64.wrap (2 ^ t114.toNat)) = ji32 := fun hle_ => by have h_ := hji32z hle_; rw [Int.one_mul] at h_; exact h_
                  have hji32y : (wrap64 (1 * 2 ^ min t114.toNat 64)) = ji32 := (i64_w _).symm.trans hji32_
                  have hji32x : t114 ≤ 64 → (wrap64 (1 * 2 ^ t114.toNat)) = ji32 := fun h_ => (i64_w _).symm.trans (hji32z h_)
                  by_cases c33 : t120 < (ji32)
                  · rw [if_pos c33] at H
                    have c33b0 : decide (t120 < (ji32)) = true := decide_eq_true c33
                    clear c33
                    by_cases c34 : t121 ≥ 1
                    · rw [if_pos c34] at H
                      have c34b0 : decide (1 ≤ t121) = true := decide_eq_true c34
                      clear c34
                      replace H := Option.bind_eq_some_iff.mp H
                      obtain ⟨t127, A350, H⟩ := H
                      replace H : (if (wrap64 (t121)) ≤ t127 then ((hll_Hll_Top.f t114 t115).bind fun t128 => (some ((wrap64 (t123)) == (mn (wrap64 ((wrap64 (t121)) + (wrap64 (ji17)))) t128)))) else (some false)) = some r := H
                      have A35 := Aside0.mk A350
                      clear A350
                      by_cases c36 : (wrap64 (t121)) ≤ t127
                      · rw [if_pos c36] at H
                        have c36b0 : decide ((wrap64 (t121)) ≤ t127) = true := decide_eq_true c36
                        clear c36
                        replace H := Option.bind_eq_some_iff.mp H
                        obtain ⟨t128, A370, H⟩ := H
                        replace H : (some ((wrap64 (t123)) == (mn (wrap64 ((wrap64 (t121)) + (wrap64 (ji17)))) t128))) = some r := H
                        have A37 := Aside0.mk A370
                        clear A370
                        obtain ⟨ji38, hji38⟩ : ∃ j_ : Int, (mn (wrap64 ((wrap64 (t121)) + (wrap64 (ji17)))) t128) = j_ := ⟨_, rfl⟩
                        replace H : (some ((wrap64 (t123)) == (ji38))) = some r := by first | (rw [hji38] at H; exact H) | (simp only [hji38] at H ⊢; exact H)
                        (try rw [hji38] at A4)
                        (try rw [hji38] at A6)
                        (try rw [hji38] at A7)
                        (try rw [hji38] at A20)
                        (try rw [hji38] at A25)
                        (try rw [hji38] at A29)
                        (try rw [hji38] at A35)
                        (try rw [hji38] at A37)
                        have hji38_ : (if t128 < (wrap64 ((wrap64 (t121)) + (wrap64 (ji17)))) then t128 else (wrap64 ((wrap64 (t121)) + (wrap64 (ji17))))) = ji38 := hji38
                        have e27_ : t127 = t126 := Option.some.inj (A35.out.symm.trans A29.out)
                        have e28_ : t128 = t126 := Option.some.inj (A37.out.symm.trans A29.out)
                        rw [e27_] at c36b0
                        rw [e28_] at hji38 hji38_
                        clear e27_ e28_
                        obtain rfl := Option.some.inj H
                        go_enter Try.func5, Try.ntmps5
                        try go_wp2_with (first | ((with_reducible refine gate_callee (f := 17) rfl ?_); refine goesL_ (some 15) rfl rfl Try.func17 (by kernel_rfl) rfl #[] rfl (by (try simp only [List.map_toArray, List.map_cons, List.map_nil]); first | done | rfl | (simp only [List.length_drop, List.length_take]; rfl)) ?_; (with_reducible refine (herbariumlaw13_Awake.calls  true _ A4.out).mono ?_); rintro e w39 ⟨rfl, hb⟩; refine ⟨_, rfl, ?_⟩; have n0_ := Aside0.mk (below_step (by repeat (first | (with_reducible first | exact HB.out | apply below_alloc | apply pw_below_drewN | apply below_drew1) | exact HB.out)) hb); clear HB; have HB := n0_; clear n0_; (try clear hb); (try clear hb2); (try clear hk); (try clear hi)) | ((with_reducible refine gate_callee (f := 19) rfl ?_); refine goesL_ (some 22) rfl rfl Try.func19 (by kernel_rfl) rfl #[.int .i64 (wrap64 (4 + (wrap64 (Int.tmod a0 5))))] rfl (by (try simp only [List.map_toArray, List.map_cons, List.map_nil]); first | done | rfl | (simp only [List.length_drop, List.length_take]; rfl)) ?_; (with_reducible refine (hll_New.calls (wrap64 (4 + (wrap64 (Int.tmod a0 5)))) t114 t115 true _ A6.out).mono ?_); rintro e w40 ⟨v116, rfl, ho0, hb⟩; refine ⟨_, rfl, ?_⟩; have n0_ := Aside0.mk (Kd.R_lower ho0 (below_size (by repeat (first | (with_reducible first | exact HB.out | apply below_alloc | apply pw_below_drewN | apply below_drew1) | exact HB.out)))); have n1_ := Aside0.mk (below_step (by repeat (first | (with_reducible first | exact HB.out | apply below_alloc | apply pw_below_drewN | apply below_drew1) | exact HB.out)) hb); clear HB; have HO117 := n0_; have HB := n1_; clear n0_ n1_; (try clear hb); (try clear hb2); (try clear hk); (try clear hi); (try clear ho0)) | ((with_reducible refine gate_dst (N := 7) rfl ?_); (try (refine gate_guard (by rfl) ?_; dsimp only)); refine box_event ?hg (N := 7) ?hd (cs := #[.int .i64 0, .slice none 0 0]) (t := 35) ?hr ?_; (case hd => rfl); (case hg => rfl); (case hr => first | (go_simp; done) | (go_simp; rfl)); intro gb119 hg w41 hbox hb; have n0_ := Aside0.mk (Kd.R_below (by (with_reducible repeat (first | apply Kd.R_alloc | apply Kd.R_drewN | apply Kd.R_drew)); exact HO117.out) hb); have n1_ := Aside0.mk (below_step (by repeat (first | (with_reducible first | exact HB.out | apply below_alloc | apply pw_below_drewN | apply below_drew1) | exact HB.out)) hb); have n2_ := Aside0.mk (hbox); have n3_ := Aside0.mk ((by rw [hg]; exact (below_size (by repeat (first | (with_reducible first | exact HB.out | apply below_alloc | apply pw_below_drewN | apply below_drew1) | exact HB.out))) : w.heap.size ≤ gb119)); have n4_ := Aside0.mk ((by rw [hg]; exact (below_size (by repeat (first | (with_reducible first | exact HB.out | apply below_alloc | apply pw_below_drewN | apply below_drew1) | exact HB.out))) : w.heap.size ≤ gb119)); clear HO117; clear HB; have HO117 := n0_; have HB := n1_; have BK119 := n2_; have GW119 := n3_; have GE119 := n4_; clear n0_ n1_ n2_ n3_ n4_; clear hb hbox hg; have hcz42_0 : w41.cell? ⟨gb119, 0, none⟩ = some (.int .i64 0) := (blk_cell BK119.out 0).trans rfl; have hcz42_1 : w41.cell? ⟨gb119, 1, none⟩ = some (.slice none 0 0) := (blk_cell BK119.out 1).trans rfl; have hfz42_0 := blk_frozen BK119.out 0; have hfz42_1 := blk_frozen BK119.out 1; obtain ⟨Ao43, co43, eo43⟩ := Kd.R_slice HO117.out; subst eo43) | ((with_reducible refine gate_callee (f := 22) rfl ?_); refine goesL_ (some 28) rfl rfl Try.func22 (by kernel_rfl) rfl #[.agg #[.int .i64 t114, .slice Ao43 t115.length co43], .int .u64 a1] rfl (by (try simp only [List.map_toArray, List.map_cons, List.map_nil]); first | done | rfl | (simp only [List.length_drop, List.length_take]; rfl)) ?_; (with_reducible refine (hll_Hll_Place.calls t114 _ _ t115 a1 t120 t121 _ ?side1 ?side2 A7.out).mono ?_); (case side1 => refine (Kd.R_reads' (e := 5) (base := w.heap.size) (ok := fun k_ => True) (n := t115.length) (c := co43) ?_).2.2; exact (by (with_reducible repeat (first | apply Kd.R_alloc | apply Kd.R_drewN | apply Kd.R_drew)); exact (Kd.R_mono (Kd.R_far (p := ⟨gb119, 1, none⟩) (Kd.R_far (p := ⟨gb119, 0, none⟩) (Kd.R_types HO117.out BK119.out (by decide)) (fun _ hk => hk.2) (.int .i64 t114)) (fun _ hk => hk.2) (.slice Ao43 t115.length co43)) (fun _ h_ => h_.1)))); (case side2 => exact (Kd.R_reads' HO117.out).2.1); rintro e w44 ⟨rfl, hb⟩; refine ⟨_, rfl, ?_⟩; have n0_ := Aside0.mk (Kd.R_below (by (with_reducible repeat (first | apply Kd.R_alloc | apply Kd.R_drewN | apply Kd.R_drew)); exact (Kd.R_mono (Kd.R_far (p := ⟨gb119, 1, none⟩) (Kd.R_far (p := ⟨gb119, 0, none⟩) (Kd.R_types HO117.out BK119.out (by decide)) (fun _ hk => hk.2) (.int .i64 t114)) (fun _ hk => hk.2) (.slice Ao43 t115.length co43)) (fun _ h_ => h_.1))) hb); have n1_ := Aside0.mk (blk_below (g := gb119) (o := .cells #[.int .i64 t114, .slice Ao43 t115.length co43] 35 (0, 0)) (by (with_reducible repeat (first | refine blk_drewN ?_ _ | refine blk_drew ?_ | refine blk_alloc ?_ _)); refine blk_put (cs := #[.int .i64 t114, .slice none 0 0]) ?_ 1 _ rfl; (with_reducible repeat (first | refine blk_drewN ?_ _ | refine blk_drew ?_ | refine blk_alloc ?_ _)); refine blk_put (cs := #[.int .i64 0, .slice none 0 0]) ?_ 0 _ rfl; (with_reducible repeat (first | refine blk_drewN ?_ _ | refine blk_drew ?_ | refine blk_alloc ?_ _)); exact BK119.out) hb); have n2_ := Aside0.mk (below_step (by repeat (first | (with_reducible first | exact HB.out | apply below_alloc | apply pw_below_drewN | apply below_drew1 | refine below_set ?_ GE119.out) | exact HB.out)) hb); clear HO117; clear BK119; clear HB; have HO117 := n0_; have BK119 := n1_; have HB := n2_; clear n0_ n1_ n2_; (try clear hb); (try clear hb2); (try clear hk); (try clear hi)))
                        have n0_ := Aside0.mk (Kd.R_drew HO117.out)
                        have n1_ := Aside0.mk (blk_drew BK119.out)
                        have n2_ := Aside0.mk (below_drew1 HB.out)
                        clear HO117
                        clear BK119
                        clear HB
                        have HO117 := n0_
                        have BK119 := n1_
                        have HB := n2_
                        clear n0_ n1_ n2_
                        refine start_ (n := 27) (S := fun w' => w'.cell? ⟨gb119, 0, none⟩ = some (.int .i64 t114) ∧ w'.cell? ⟨gb119, 1, none⟩ = some (.slice Ao43 t115.length co43)) (ds := []) #[false, false, false, false, false, false, false, false, false, false, false, false, false, false, false, false, false, false, false, false, false, false, false, false, false, false, false] (by kernel_rfl) rfl rfl ⟨(blk_cell BK119.out 0).trans rfl, (blk_cell BK119.out 1).trans rfl⟩ (fun hHeld => ?_); refine with_tabW herbariumlaw13_HllPlaces.tab5 herbariumlaw13_HllPlaces.bits5 (fun HT_ HW_ => ?_)
                        generalize w44.drew = w45 at HO117 BK119 HB hHeld ⊢
                        refine pure_ (i := 1) (N := some 33) (v := ?_) (a' := ?_) #[false, true, false, false, false, false, false, false, false, false, false, false, false, false, false, false, false, false, false, false, false, false, false, false, false, false, false] rfl rfl (any_of HT_.out (by kernel_rfl)) (fun _ _ _ h => h) (Or.inl ⟨by rfl, ?_⟩) ?_ ?_
                        rotate_left
                        · intro w'
                          go_simp
                          with_reducible rfl
                        rotate_left
                        · simp only [Act.put, List.setIfInBounds_toArray, List.set_cons_zero, List.set_cons_succ, i64_w, i32_w]
                          rfl
                        refine pure_ (i := 2) (N := some 34) (v := ?_) (a' := ?_) #[false, true, true, false, false, false, false, false, false, false, false, false, false, false, false, false, false, false, false, false, false, false, false, false, false, false, false] rfl rfl (any_of HT_.out (by kernel_rfl)) (fun _ _ _ h => h) (Or.inl ⟨by rfl, ?_⟩) ?_ ?_
                        rotate_left
                        · intro w'
                          go_simp
                          with_reducible rfl
                        rotate_left
                        · simp only [Act.put, List.setIfInBounds_toArray, List.set_cons_zero, List.set_cons_succ, i64_w, i32_w]
                          rfl
                        refine pure_ (i := 6) (N := some 38) (v := ?_) (a' := ?_) #[false, true, true, false, false, false, true, false, false, false, false, false, false, false, false, false, false, false, false, false, false, false, false, false, false, false, false] rfl rfl (any_of HT_.out (by kernel_rfl)) (fun _ _ _ h => h) (Or.inl ⟨by rfl, ?_⟩) ?_ ?_
                        rotate_left
                        · intro w'
                          go_simp
                          with_reducible rfl
                        rotate_left
                        · simp only [Act.put, List.setIfInBounds_toArray, List.set_cons_zero, List.set_cons_succ, i64_w, i32_w]
                          rfl
                        refine pure_ (i := 10) (N := some 42) (v := ?_) (a' := ?_) #[false, true, true, false, false, false, true, false, false, false, true, false, false, false, false, false, false, false, false, false, false, false, false, false, false, false, false] rfl rfl (any_of HT_.out (by kernel_rfl)) (fun _ _ _ h => h) (Or.inl ⟨by rfl, ?_⟩) ?_ ?_
                        rotate_left
                        · intro w'
                          go_simp
                          with_reducible rfl
                        rotate_left
                        · simp only [Act.put, List.setIfInBounds_toArray, List.set_cons_zero, List.set_cons_succ, i64_w, i32_w]
                          rfl
                        refine pure_ (i := 11) (N := some 43) (v := ?_) (a' := ?_) #[false, true, true, false, false, false, true, false, false, false, true, true, false, false, false, false, false, false, false, false, false, false, false, false, false, false, false] rfl rfl (any_of HT_.out (by kernel_rfl)) (fun _ _ _ h => h) (Or.inl ⟨by rfl, ?_⟩) ?_ ?_
                        rotate_left
                        · intro w'
                          go_simp
                          with_reducible rfl
                        rotate_left
                        · simp only [Act.put, List.setIfInBounds_toArray, List.set_cons_zero, List.set_cons_succ, i64_w, i32_w]
                          rfl
                        refine pure_ (i := 14) (N := some 46) (v := ?_) (a' := ?_) #[false, true, true, false, false, false, true, false, false, false, true, true, false, false, true, false, false, false, false, false, false, false, false, false, false, false, false] rfl rfl (any_of HT_.out (by kernel_rfl)) (fun _ _ _ h => h) (Or.inl ⟨by rfl, ?_⟩) ?_ ?_
                        rotate_left
                        · intro w'
                          go_simp
                          with_reducible rfl
                        rotate_left
                        · simp only [Act.put, List.setIfInBounds_toArray, List.set_cons_zero, List.set_cons_succ, i64_w, i32_w]
                          rfl
                        refine pure_ (i := 17) (N := some 49) (v := ?_) (a' := ?_) #[false, true, true, false, false, false, true, false, false, false, true, true, false, false, true, false, false, true, false, false, false, false, false, false, false, false, false] rfl rfl (any_of HT_.out (by kernel_rfl)) (fun _ _ _ h => h) (Or.inl ⟨by rfl, ?_⟩) ?_ ?_
                        rotate_left
                        · intro w'
                          go_simp
                          with_reducible rfl
                        rotate_left
                        · simp only [Act.put, List.setIfInBounds_toArray, List.set_cons_zero, List.set_cons_succ, i64_w, i32_w]
                          rfl
                        refine pure_ (i := 18) (N := some 50) (v := ?_) (a' := ?_) #[false, true, true, false, false, false, true, false, false, false, true, true, false, false, true, false, false, true, true, false, false, false, false, false, false, false, false] rfl rfl (any_of HT_.out (by kernel_rfl)) (fun _ _ _ h => h) (Or.inl ⟨by rfl, ?_⟩) ?_ ?_
                        rotate_left
                        · intro w'
                          go_simp
                          with_reducible rfl
                        rotate_left
                        · simp only [Act.put, List.setIfInBounds_toArray, List.set_cons_zero, List.set_cons_succ, i64_w, i32_w]
                          rfl
                        refine take_ (i := 0) (N := some 32) (v := ?_) (a' := ?_) #[true, true, true, false, false, false, true, false, false, false, true, true, false, false, true, false, false, true, true, false, false, false, false, false, false, false, false] rfl rfl (take_ofW HT_.out HW_.out (by kernel_rfl)) (fun _ _ _ h => h) (Or.inl ⟨by rfl, ?_⟩) hHeld ?_ ?_
                        rotate_left
                        · rintro w' ⟨s0, s1⟩
                          go_simp
                          with_reducible rfl
                        rotate_left
                        · simp only [Act.put, List.setIfInBounds_toArray, List.set_cons_zero, List.set_cons_succ, i64_w, i32_w]
                          rfl
                        refine take_ (i := 3) (N := some 35) (v := ?_) (a' := ?_) #[true, true, true, true, false, false, true, false, false, false, true, true, false, false, true, false, false, true, true, false, false, false, false, false, false, false, false] rfl rfl (take_ofW HT_.out HW_.out (by kernel_rfl)) (fun _ _ _ h => h) (Or.inl ⟨by rfl, ?_⟩) hHeld ?_ ?_
                        rotate_left
                        · rintro w' ⟨s0, s1⟩
                          go_simp
                          with_reducible rfl
                        rotate_left
                        · simp only [Act.put, List.setIfInBounds_toArray, List.set_cons_zero, List.set_cons_succ, i64_w, i32_w]
                          rfl
                        refine pure_ (i := 4) (N := some 36) (v := ?_) (a' := ?_) #[true, true, true, true, true, false, true, false, false, false, true, true, false, false, true, false, false, true, true, false, false, false, false, false, false, false, false] rfl rfl (any_of HT_.out (by kernel_rfl)) (fun _ _ _ h => h) (Or.inl ⟨by rfl, ?_⟩) ?_ ?_
                        rotate_left
                        · intro w'
                          go_simp
                          with_reducible rfl
                        rotate_left
                        · simp only [Act.put, List.setIfInBounds_toArray, List.set_cons_zero, List.set_cons_succ, i64_w, i32_w]
                          rfl
                        refine pure_ (i := 5) (N := some 37) (v := ?_) (a' := ?_) #[true, true, true, true, true, true, true, false, false, false, true, true, false, false, true, false, false, true, true, false, false, false, false, false, false, false, false] rfl rfl (any_of HT_.out (by kernel_rfl)) (fun _ _ _ h => h) (Or.inl ⟨by rfl, ?_⟩) ?_ ?_
                        rotate_left
                        · intro w'
                          go_simp
                          with_reducible rfl
                        rotate_left
                        · simp only [Act.put, List.setIfInBounds_toArray, List.set_cons_zero, List.set_cons_succ, i64_w, i32_w]
                          rfl
                        refine take_ (i := 7) (N := some 39) (v := ?_) (a' := ?_) #[true, true, true, true, true, true, true, true, false, false, true, true, false, false, true, false, false, true, true, false, false, false, false, false, false, false, false] rfl rfl (take_ofW HT_.out HW_.out (by kernel_rfl)) (fun _ _ _ h => h) (Or.inl ⟨by rfl, ?_⟩) hHeld ?_ ?_
                        rotate_left
                        · rintro w' ⟨s0, s1⟩
                          go_simp
                          with_reducible rfl
                        rotate_left
                        · simp only [Act.put, List.setIfInBounds_toArray, List.set_cons_zero, List.set_cons_succ, i64_w, i32_w]
                          rfl
                        refine pure_ (i := 8) (N := some 40) (v := ?_) (a' := ?_) #[true, true, true, true, true, true, true, true, true, false, true, true, false, false, true, false, false, true, true, false, false, false, false, false, false, false, false] rfl rfl (any_of HT_.out (by kernel_rfl)) (fun _ _ _ h => h) (Or.inl ⟨by rfl, ?_⟩) ?_ ?_
                        rotate_left
                        · intro w'
                          go_simp
                          with_reducible rfl
                        rotate_left
                        · simp only [Act.put, List.setIfInBounds_toArray, List.set_cons_zero, List.set_cons_succ, i64_w, i32_w]
                          rfl
                        refine pure_ (i := 9) (N := some 41) (v := ?_) (a' := ?_) #[true, true, true, true, true, true, true, true, true, true, true, true, false, false, true, false, false, true, true, false, false, false, false, false, false, false, false] rfl rfl (any_of HT_.out (by kernel_rfl)) (fun _ _ _ h => h) (Or.inl ⟨by rfl, ?_⟩) ?_ ?_
                        rotate_left
                        · intro w'
                          go_simp
                          with_reducible rfl
                        rotate_left
                        · simp only [Act.put, List.setIfInBounds_toArray, List.set_cons_zero, List.set_cons_succ, i64_w, i32_w]
                          rfl
                        refine take_ (i := 12) (N := some 44) (v := ?_) (a' := ?_) #[true, true, true, true, true, true, true, true, true, true, true, true, true, false, true, false, false, true, true, false, false, false, false, false, false, false, false] rfl rfl (take_ofW HT_.out HW_.out (by kernel_rfl)) (fun _ _ _ h => h) (Or.inl ⟨by rfl, ?_⟩) hHeld ?_ ?_
                        rotate_left
                        · rintro w' ⟨s0, s1⟩
                          go_simp
                          with_reducible rfl
                        rotate_left
                        · simp only [Act.put, List.setIfInBounds_toArray, List.set_cons_zero, List.set_cons_succ, i64_w, i32_w]
                          rfl
                        refine pure_ (i := 13) (N := some 45) (v := ?_) (a' := ?_) #[true, true, true, true, true, true, true, true, true, true, true, true, true, true, true, false, false, true, true, false, false, false, false, false, false, false, false] rfl rfl (any_of HT_.out (by kernel_rfl)) (fun _ _ _ h => h) (Or.inl ⟨by rfl, ?_⟩) ?_ ?_
                        rotate_left
                        · intro w'
                          go_simp
                          with_reducible rfl
                        rotate_left
                        · simp only [Act.put, List.setIfInBounds_toArray, List.set_cons_zero, List.set_cons_succ, i64_w, i32_w]
                          rfl
                        refine take_ (i := 15) (N := some 47) (v := ?_) (a' := ?_) #[true, true, true, true, true, true, true, true, true, true, true, true, true, true, true, true, false, true, true, false, false, false, false, false, false, false, false] rfl rfl (take_ofW HT_.out HW_.out (by kernel_rfl)) (fun _ _ _ h => h) (Or.inl ⟨by rfl, ?_⟩) hHeld ?_ ?_
                        rotate_left
                        · rintro w' ⟨s0, s1⟩
                          go_simp
                          with_reducible rfl
                        rotate_left
                        · simp only [Act.put, List.setIfInBounds_toArray, List.set_cons_zero, List.set_cons_succ, i64_w, i32_w]
                          rfl
                        refine pure_ (i := 16) (N := some 48) (v := ?_) (a' := ?_) #[true, true, true, true, true, true, true, true, true, true, true, true, true, true, true, true, true, true, true, false, false, false, false, false, false, false, false] rfl rfl (any_of HT_.out (by kernel_rfl)) (fun _ _ _ h => h) (Or.inl ⟨by rfl, ?_⟩) ?_ ?_
                        rotate_left
                        · intro w'
                          go_simp
                          with_reducible rfl
                        rotate_left
                        · simp only [Act.put, List.setIfInBounds_toArray, List.set_cons_zero, List.set_cons_succ, i64_w, i32_w]
                          rfl
                        refine pure_ (i := 19) (N := some 51) (v := ?_) (a' := ?_) #[true, true, true, true, true, true, true, true, true, true, true, true, true, true, true, true, true, true, true, true, false, false, false, false, false, false, false] rfl rfl (any_of HT_.out (by kernel_rfl)) (fun _ _ _ h => h) (Or.inl ⟨by rfl, ?_⟩) ?_ ?_
                        rotate_left
                        · intro w'
                          go_simp
                          with_reducible rfl
                        rotate_left
                        · simp only [Act.put, List.setIfInBounds_toArray, List.set_cons_zero, List.set_cons_succ, i64_w, i32_w]
                          rfl
                        refine pure_ (i := 20) (N := some 52) (v := ?_) (a' := ?_) #[true, true, true, true, true, true, true, true, true, true, true, true, true, true, true, true, true, true, true, true, true, false, false, false, false, false, false] rfl rfl (any_of HT_.out (by kernel_rfl)) (fun _ _ _ h => h) (Or.inl ⟨by rfl, ?_⟩) ?_ ?_
                        rotate_left
                        · intro w'
                          go_simp
                          with_reducible rfl
                        rotate_left
                        · simp only [Act.put, List.setIfInBounds_toArray, List.set_cons_zero, List.set_cons_succ, i64_w, i32_w]
                          rfl
                        refine one_ (i := 21) (N := some 53) #[true, true, true, true, true, true, true, true, true, true, true, true, true, true, true, true, true, true, true, true, true, true, false, false, false, false, false] rfl rfl (one_of HT_.out (by kernel_rfl)) (by decide) (fun K hK => ?_)
                        refine goes_ Try.func22 (by kernel_rfl) rfl #[.agg #[.int .i64 t114, .slice Ao43 t115.length co43], .int .u64 (Go.bits .or .u64 (ji12) (ji19))] (by rfl) rfl rfl (by (try simp only [List.map_toArray, List.map_cons, List.map_nil]); first | done | (simp only [hji12, hji19]; rfl) | rfl | (simp only [List.length_drop, List.length_take]; rfl)) ?_
                        with_reducible refine (hll_Hll_Place.calls t114 _ _ t115 (Go.bits .or .u64 (ji12) (ji19)) t122 t123 _ ?side1 ?side2 A20.out).mono ?_
                        (case side1 => repeat (first | exact (Kd.R_reads' HO117.out).2.2 | (with_reducible refine Kd.C_alloc ?_ _) | (with_reducible refine Kd.C_drewN ?_ _) | (with_reducible refine Kd.C_drew ?_)))
                        (case side2 => exact (Kd.R_reads' HO117.out).2.1)
                        rintro e w46 ⟨rfl, hb⟩
                        refine ⟨_, rfl, ?_⟩
                        have n0_ := Aside0.mk (Kd.R_below (by (with_reducible repeat (first | apply Kd.R_alloc | apply Kd.R_drewN | apply Kd.R_drew)); exact HO117.out) hb)
                        have n1_ := Aside0.mk (blk_below (g := gb119) (o := .cells #[.int .i64 t114, .slice Ao43 t115.length co43] 35 (0, 0)) (by (with_reducible repeat (first | refine blk_drewN ?_ _ | refine blk_drew ?_ | refine blk_alloc ?_ _)); exact BK119.out) hb)
                        have n2_ := Aside0.mk (below_step (by repeat (first | (with_reducible first | exact HB.out | apply below_alloc | apply pw_below_drewN | apply below_drew1 | refine below_set ?_ GE119.out) | exact HB.out)) hb)
                        clear HO117
                        clear BK119
                        clear HB
                        have HO117 := n0_
                        have BK119 := n1_
                        have HB := n2_
                        clear n0_ n1_ n2_
                        (try clear hb)
                        (try clear hb2)
                        (try clear hk)
                        (try clear hi)
                        refine hK.out _ _ ⟨(blk_cell BK119.out 0).trans rfl, (blk_cell BK119.out 1).trans rfl⟩ (fun hHeld => ?_)
                        clear hK K
                        refine norm_ (a' := ?_) ?_ ?_
                        rotate_left
                        · show Act.put _ (some 53) _ = _
                          simp only [Act.put, List.setIfInBounds_toArray, List.set_cons_zero, List.set_cons_succ, i64_w, i32_w]
                          rfl
                        refine pure_ (i := 22) (N := some 31) (v := ?_) (a' := ?_) #[true, true, true, true, true, true, true, true, true, true, true, true, true, true, true, true, true, true, true, true, true, true, true, false, false, false, false] rfl rfl (any_of HT_.out (by kernel_rfl)) (fun _ _ _ h => h) (Or.inl ⟨by rfl, ?_⟩) ?_ ?_
                        rotate_left
                        · intro w'
                          go_simp
                          with_reducible rfl
                        rotate_left
                        · simp only [Act.put, List.setIfInBounds_toArray, List.set_cons_zero, List.set_cons_succ, i64_w, i32_w]
                          rfl
                        refine pure_ (i := 23) (N := some 54) (v := ?_) (a' := ?_) #[true, true, true, true, true, true, true, true, true, true, true, true, true, true, true, true, true, true, true, true, true, true, true, true, false, false, false] rfl rfl (any_of HT_.out (by kernel_rfl)) (fun _ _ _ h => h) (Or.inl ⟨by rfl, ?_⟩) ?_ ?_
                        rotate_left
                        · intro w'
                          go_simp
                          with_reducible rfl
                        rotate_left
                        · simp only [Act.put, List.setIfInBounds_toArray, List.set_cons_zero, List.set_cons_succ, i64_w, i32_w]
                          rfl
                        refine pure_ (i := 24) (N := some 55) (v := ?_) (a' := ?_) #[true, true, true, true, true, true, true, true, true, true, true, true, true, true, true, true, true, true, true, true, true, true, true, true, true, false, false] rfl rfl (any_of HT_.out (by kernel_rfl)) (fun _ _ _ h => h) (Or.inl ⟨by rfl, ?_⟩) ?_ ?_
                        rotate_left
                        · intro w'
                          go_simp
                          with_reducible rfl
                        rotate_left
                        · simp only [Act.put, List.setIfInBounds_toArray, List.set_cons_zero, List.set_cons_succ, i64_w, i32_w]
                          rfl
                        refine pure_ (i := 25) (N := some 11) (v := ?_) (a' := ?_) #[true, true, true, true, true, true, true, true, true, true, true, true, true, true, true, true, true, true, true, true, true, true, true, true, true, true, false] rfl rfl (any_of HT_.out (by kernel_rfl)) (fun _ _ _ h => h) (Or.inl ⟨by rfl, ?_⟩) ?_ ?_
                        rotate_left
                        · intro w'
                          go_simp
                          with_reducible rfl
                        rotate_left
                        · simp only [Act.put, List.setIfInBounds_toArray, List.set_cons_zero, List.set_cons_succ, i64_w, i32_w]
                          rfl
                        refine pure_ (i := 26) (N := some 12) (v := ?_) (a' := ?_) #[true, true, true, true, true, true, true, true, true, true, true, true, true, true, true, true, true, true, true, true, true, true, true, true, true, true, true] rfl rfl (any_of HT_.out (by kernel_rfl)) (fun _ _ _ h => h) (Or.inl ⟨by rfl, ?_⟩) ?_ ?_
                        rotate_left
                        · intro w'
                          go_simp
                          with_reducible rfl
                        rotate_left
                        · simp only [Act.put, List.setIfInBounds_toArray, List.set_cons_zero, List.set_cons_succ, i64_w, i32_w]
                          rfl
                        refine done_ (done_of HT_.out (by kernel_rfl)) ?_
                        try go_wp2
                        have n0_ := Aside0.mk (Kd.R_drew HO117.out)
                        have n1_ := Aside0.mk (blk_drew BK119.out)
                        have n2_ := Aside0.mk (below_drew1 HB.out)
                        clear HO117
                        clear BK119
                        clear HB
                        have HO117 := n0_
                        have BK119 := n1_
                        have HB := n2_
                        clear n0_ n1_ n2_
                        refine start_ (n := 16) (S := fun w' => w'.cell? ⟨gb119, 0, none⟩ = some (.int .i64 t114) ∧ w'.cell? ⟨gb119, 1, none⟩ = some (.slice Ao43 t115.length co43)) (ds := []) #[false, false, false, false, false, false, false, false, false, false, false, false, false, false, false, false] (by kernel_rfl) rfl rfl ⟨(blk_cell BK119.out 0).trans rfl, (blk_cell BK119.out 1).trans rfl⟩ (fun hHeld => ?_); refine with_tabW herbariumlaw13_HllPlaces.tab6 herbariumlaw13_HllPlaces.bits6 (fun HT_ HW_ => ?_)
                        generalize w46.drew = w47 at HO117 BK119 HB hHeld ⊢
                        refine pure_ (i := 1) (N := some 58) (v := ?_) (a' := ?_) #[false, true, false, false, false, false, false, false, false, false, false, false, false, false, false, false] rfl rfl (any_of HT_.out (by kernel_rfl)) (fun _ _ _ h => h) (Or.inl ⟨by rfl, ?_⟩) ?_ ?_
                        rotate_left
                        · intro w'
                          go_simp
                          with_reducible rfl
                        rotate_left
                        · simp only [Act.put, List.setIfInBounds_toArray, List.set_cons_zero, List.set_cons_succ, i64_w, i32_w]
                          rfl
                        refine pure_ (i := 2) (N := some 59) (v := ?_) (a' := ?_) #[false, true, true, false, false, false, false, false, false, false, false, false, false, false, false, false] rfl rfl (any_of HT_.out (by kernel_rfl)) (fun _ _ _ h => h) (Or.inl ⟨by rfl, ?_⟩) ?_ ?_
                        rotate_left
                        · intro w'
                          go_simp
                          with_reducible rfl
                        rotate_left
                        · simp only [Act.put, List.setIfInBounds_toArray, List.set_cons_zero, List.set_cons_succ, i64_w, i32_w]
                          rfl
                        refine pure_ (i := 6) (N := some 63) (v := ?_) (a' := ?_) #[false, true, true, false, false, false, true, false, false, false, false, false, false, false, false, false] rfl rfl (any_of HT_.out (by kernel_rfl)) (fun _ _ _ h => h) (Or.inl ⟨by rfl, ?_⟩) ?_ ?_
                        rotate_left
                        · intro w'
                          go_simp
                          with_reducible rfl
                        rotate_left
                        · simp only [Act.put, List.setIfInBounds_toArray, List.set_cons_zero, List.set_cons_succ, i64_w, i32_w]
                          rfl
                        refine take_ (i := 0) (N := some 57) (v := ?_) (a' := ?_) #[true, true, true, false, false, false, true, false, false, false, false, false, false, false, false, false] rfl rfl (take_ofW HT_.out HW_.out (by kernel_rfl)) (fun _ _ _ h => h) (Or.inl ⟨by rfl, ?_⟩) hHeld ?_ ?_
                        rotate_left
                        · rintro w' ⟨s0, s1⟩
                          go_simp
                          with_reducible rfl
                        rotate_left
                        · simp only [Act.put, List.setIfInBounds_toArray, List.set_cons_zero, List.set_cons_succ, i64_w, i32_w]
                          rfl
                        refine take_ (i := 3) (N := some 60) (v := ?_) (a' := ?_) #[true, true, true, true, false, false, true, false, false, false, false, false, false, false, false, false] rfl rfl (take_ofW HT_.out HW_.out (by kernel_rfl)) (fun _ _ _ h => h) (Or.inl ⟨by rfl, ?_⟩) hHeld ?_ ?_
                        rotate_left
                        · rintro w' ⟨s0, s1⟩
                          go_simp
                          with_reducible rfl
                        rotate_left
                        · simp only [Act.put, List.setIfInBounds_toArray, List.set_cons_zero, List.set_cons_succ, i64_w, i32_w]
                          rfl
                        refine pure_ (i := 4) (N := some 61) (v := ?_) (a' := ?_) #[true, true, true, true, true, false, true, false, false, false, false, false, false, false, false, false] rfl rfl (any_of HT_.out (by kernel_rfl)) (fun _ _ _ h => h) (Or.inl ⟨by rfl, ?_⟩) ?_ ?_
                        rotate_left
                        · intro w'
                          go_simp
                          with_reducible rfl
                        rotate_left
                        · simp only [Act.put, List.setIfInBounds_toArray, List.set_cons_zero, List.set_cons_succ, i64_w, i32_w]
                          rfl
                        refine pure_ (i := 5) (N := some 62) (v := ?_) (a' := ?_) #[true, true, true, true, true, true, true, false, false, false, false, false, false, false, false, false] rfl rfl (any_of HT_.out (by kernel_rfl)) (fun _ _ _ h => h) (Or.inl ⟨by rfl, ?_⟩) ?_ ?_
                        rotate_left
                        · intro w'
                          go_simp
                          with_reducible rfl
                        rotate_left
                        · simp only [Act.put, List.setIfInBounds_toArray, List.set_cons_zero, List.set_cons_succ, i64_w, i32_w]
                          rfl
                        refine take_ (i := 7) (N := some 64) (v := ?_) (a' := ?_) #[true, true, true, true, true, true, true, true, false, false, false, false, false, false, false, false] rfl rfl (take_ofW HT_.out HW_.out (by kernel_rfl)) (fun _ _ _ h => h) (Or.inl ⟨by rfl, ?_⟩) hHeld ?_ ?_
                        rotate_left
                        · rintro w' ⟨s0, s1⟩
                          go_simp
                          with_reducible rfl
                        rotate_left
                        · simp only [Act.put, List.setIfInBounds_toArray, List.set_cons_zero, List.set_cons_succ, i64_w, i32_w]
                          rfl
                        refine pure_ (i := 8) (N := some 65) (v := ?_) (a' := ?_) #[true, true, true, true, true, true, true, true, true, false, false, false, false, false, false, false] rfl rfl (any_of HT_.out (by kernel_rfl)) (fun _ _ _ h => h) (Or.inl ⟨by rfl, ?_⟩) ?_ ?_
                        rotate_left
                        · intro w'
                          go_simp
                          with_reducible rfl
                        rotate_left
                        · simp only [Act.put, List.setIfInBounds_toArray, List.set_cons_zero, List.set_cons_succ, i64_w, i32_w]
                          rfl
                        refine pure_ (i := 9) (N := some 66) (v := ?_) (a' := ?_) #[true, true, true, true, true, true, true, true, true, true, false, false, false, false, false, false] rfl rfl (any_of HT_.out (by kernel_rfl)) (fun _ _ _ h => h) (Or.inl ⟨by rfl, ?_⟩) ?_ ?_
                        rotate_left
                        · intro w'
                          go_simp
                          with_reducible rfl
                        rotate_left
                        · simp only [Act.put, List.setIfInBounds_toArray, List.set_cons_zero, List.set_cons_succ, i64_w, i32_w]
                          rfl
                        refine one_ (i := 10) (N := some 67) #[true, true, true, true, true, true, true, true, true, true, true, false, false, false, false, false] rfl rfl (one_of HT_.out (by kernel_rfl)) (by decide) (fun K hK => ?_)
                        refine goes_ Try.func22 (by kernel_rfl) rfl #[.agg #[.int .i64 t114, .slice Ao43 t115.length co43], .int .u64 ji12] (by rfl) rfl rfl (by (try simp only [List.map_toArray, List.map_cons, List.map_nil]); first | done | (simp only [hji12]; rfl) | rfl | (simp only [List.length_drop, List.length_take]; rfl)) ?_
                        with_reducible refine (hll_Hll_Place.calls t114 _ _ t115 ji12 t124 t125 _ ?side1 ?side2 A25.out).mono ?_
                        (case side1 => repeat (first | exact (Kd.R_reads' HO117.out).2.2 | (with_reducible refine Kd.C_alloc ?_ _) | (with_reducible refine Kd.C_drewN ?_ _) | (with_reducible refine Kd.C_drew ?_)))
                        (case side2 => exact (Kd.R_reads' HO117.out).2.1)
                        rintro e w48 ⟨rfl, hb⟩
                        refine ⟨_, rfl, ?_⟩
                        have n0_ := Aside0.mk (Kd.R_below (by (with_reducible repeat (first | apply Kd.R_alloc | apply Kd.R_drewN | apply Kd.R_drew)); exact HO117.out) hb)
                        have n1_ := Aside0.mk (blk_below (g := gb119) (o := .cells #[.int .i64 t114, .slice Ao43 t115.length co43] 35 (0, 0)) (by (with_reducible repeat (first | refine blk_drewN ?_ _ | refine blk_drew ?_ | refine blk_alloc ?_ _)); exact BK119.out) hb)
                        have n2_ := Aside0.mk (below_step (by repeat (first | (with_reducible first | exact HB.out | apply below_alloc | apply pw_below_drewN | apply below_drew1 | refine below_set ?_ GE119.out) | exact HB.out)) hb)
                        clear HO117
                        clear BK119
                        clear HB
                        have HO117 := n0_
                        have BK119 := n1_
                        have HB := n2_
                        clear n0_ n1_ n2_
                        (try clear hb)
                        (try clear hb2)
                        (try clear hk)
                        (try clear hi)
                        refine hK.out _ _ ⟨(blk_cell BK119.out 0).trans rfl, (blk_cell BK119.out 1).trans rfl⟩ (fun hHeld => ?_)
                        clear hK K
                        refine norm_ (a' := ?_) ?_ ?_
                        rotate_left
                        · show Act.put _ (some 67) _ = _
                          simp only [Act.put, List.setIfInBounds_toArray, List.set_cons_zero, List.set_cons_succ, i64_w, i32_w]
                          rfl
                        refine pure_ (i := 11) (N := some 56) (v := ?_) (a' := ?_) #[true, true, true, true, true, true, true, true, true, true, true, true, false, false, false, false] rfl rfl (any_of HT_.out (by kernel_rfl)) (fun _ _ _ h => h) (Or.inl ⟨by rfl, ?_⟩) ?_ ?_
                        rotate_left
                        · intro w'
                          go_simp
                          with_reducible rfl
                        rotate_left
                        · simp only [Act.put, List.setIfInBounds_toArray, List.set_cons_zero, List.set_cons_succ, i64_w, i32_w]
                          rfl
                        refine pure_ (i := 12) (N := some 68) (v := ?_) (a' := ?_) #[true, true, true, true, true, true, true, true, true, true, true, true, true, false, false, false] rfl rfl (any_of HT_.out (by kernel_rfl)) (fun _ _ _ h => h) (Or.inl ⟨by rfl, ?_⟩) ?_ ?_
                        rotate_left
                        · intro w'
                          go_simp
                          with_reducible rfl
                        rotate_left
                        · simp only [Act.put, List.setIfInBounds_toArray, List.set_cons_zero, List.set_cons_succ, i64_w, i32_w]
                          rfl
                        refine pure_ (i := 13) (N := some 69) (v := ?_) (a' := ?_) #[true, true, true, true, true, true, true, true, true, true, true, true, true, true, false, false] rfl rfl (any_of HT_.out (by kernel_rfl)) (fun _ _ _ h => h) (Or.inl ⟨by rfl, ?_⟩) ?_ ?_
                        rotate_left
                        · intro w'
                          go_simp
                          with_reducible rfl
                        rotate_left
                        · simp only [Act.put, List.setIfInBounds_toArray, List.set_cons_zero, List.set_cons_succ, i64_w, i32_w]
                          rfl
                        refine pure_ (i := 14) (N := some 13) (v := ?_) (a' := ?_) #[true, true, true, true, true, true, true, true, true, true, true, true, true, true, true, false] rfl rfl (any_of HT_.out (by kernel_rfl)) (fun _ _ _ h => h) (Or.inl ⟨by rfl, ?_⟩) ?_ ?_
                        rotate_left
                        · intro w'
                          go_simp
                          with_reducible rfl
                        rotate_left
                        · simp only [Act.put, List.setIfInBounds_toArray, List.set_cons_zero, List.set_cons_succ, i64_w, i32_w]
                          rfl
                        refine pure_ (i := 15) (N := some 14) (v := ?_) (a' := ?_) #[true, true, true, true, true, true, true, true, true, true, true, true, true, true, true, true] rfl rfl (any_of HT_.out (by kernel_rfl)) (fun _ _ _ h => h) (Or.inl ⟨by rfl, ?_⟩) ?_ ?_
                        rotate_left
                        · intro w'
                          go_simp
                          with_reducible rfl
                        rotate_left
                        · simp only [Act.put, List.setIfInBounds_toArray, List.set_cons_zero, List.set_cons_succ, i64_w, i32_w]
                          rfl
                        refine done_ (done_of HT_.out (by kernel_rfl)) ?_
                        have hcz49_0 : w48.cell? ⟨gb119, 0, none⟩ = some (.int .i64 t114) := (blk_cell BK119.out 0).trans rfl
                        have hcz49_1 : w48.cell? ⟨gb119, 1, none⟩ = some (.slice Ao43 t115.length co43) := (blk_cell BK119.out 1).trans rfl
                        have hfz49_0 := blk_frozen BK119.out 0
                        have hfz49_1 := blk_frozen BK119.out 1
                        try go_wp2_with (first | (go_at_call 23; (with_reducible refine (hll_Hll_Top.calls t114 _ _ t115 t126 _ ?side1 ?side2 A29.out).mono ?_); (case side1 => repeat (first | exact (Kd.R_reads' HO117.out).2.2 | (with_reducible refine Kd.C_alloc ?_ _) | (with_reducible refine Kd.C_drewN ?_ _) | (with_reducible refine Kd.C_drew ?_))); (case side2 => exact (Kd.R_reads' HO117.out).2.1); rintro e w50 ⟨rfl, hb⟩; have n0_ := Aside0.mk (Kd.R_below (by (with_reducible repeat (first | apply Kd.R_alloc | apply Kd.R_drewN | apply Kd.R_drew)); exact HO117.out) hb); have n1_ := Aside0.mk (blk_below (g := gb119) (o := .cells #[.int .i64 t114, .slice Ao43 t115.length co43] 35 (0, 0)) (by (with_reducible repeat (first | refine blk_drewN ?_ _ | refine blk_drew ?_ | refine blk_alloc ?_ _)); exact BK119.out) hb); have n2_ := Aside0.mk (below_step (by repeat (first | (with_reducible first | exact HB.out | apply below_alloc | apply pw_below_drewN | apply below_drew1 | refine below_set ?_ GE119.out) | exact HB.out)) hb); clear HO117; clear BK119; clear HB; have HO117 := n0_; have BK119 := n1_; have HB := n2_; clear n0_ n1_ n2_; (try clear hb); (try clear hb2); (try clear hk); (try clear hi); have hcz51_0 : w50.cell? ⟨gb119, 0, none⟩ = some (.int .i64 t114) := (blk_cell BK119.out 0).trans rfl; have hcz51_1 : w50.cell? ⟨gb119, 1, none⟩ = some (.slice Ao43 t115.length co43) := (blk_cell BK119.out 1).trans rfl; have hfz51_0 := blk_frozen BK119.out 0; have hfz51_1 := blk_frozen BK119.out 1) | (go_at_call 23; (with_reducible refine (hll_Hll_Top.calls t114 _ _ t115 t127 _ ?side1 ?side2 A35.out).mono ?_); (case side1 => repeat (first | exact (Kd.R_reads' HO117.out).2.2 | (with_reducible refine Kd.C_alloc ?_ _) | (with_reducible refine Kd.C_drewN ?_ _) | (with_reducible refine Kd.C_drew ?_))); (case side2 => exact (Kd.R_reads' HO117.out).2.1); rintro e w52 ⟨rfl, hb⟩; have n0_ := Aside0.mk (Kd.R_below (by (with_reducible repeat (first | apply Kd.R_alloc | apply Kd.R_drewN | apply Kd.R_drew)); exact HO117.out) hb); have n1_ := Aside0.mk (blk_below (g := gb119) (o := .cells #[.int .i64 t114, .slice Ao43 t115.length co43] 35 (0, 0)) (by (with_reducible repeat (first | refine blk_drewN ?_ _ | refine blk_drew ?_ | refine blk_alloc ?_ _)); exact BK119.out) hb); have n2_ := Aside0.mk (below_step (by repeat (first | (with_reducible first | exact HB.out | apply below_alloc | apply pw_below_drewN | apply below_drew1 | refine below_set ?_ GE119.out) | exact HB.out)) hb); clear HO117; clear BK119; clear HB; have HO117 := n0_; have BK119 := n1_; have HB := n2_; clear n0_ n1_ n2_; (try clear hb); (try clear hb2); (try clear hk); (try clear hi); have hcz53_0 : w52.cell? ⟨gb119, 0, none⟩ = some (.int .i64 t114) := (blk_cell BK119.out 0).trans rfl; have hcz53_1 : w52.cell? ⟨gb119, 1, none⟩ = some (.slice Ao43 t115.length co43) := (blk_cell BK119.out 1).trans rfl; have hfz53_0 := blk_frozen BK119.out 0; have hfz53_1 := blk_frozen BK119.out 1) | (go_at_call 23; (with_reducible refine (hll_Hll_Top.calls t114 _ _ t115 t128 _ ?side1 ?side2 A37.out).mono ?_); (case side1 => repeat (first | exact (Kd.R_reads' HO117.out).2.2 | (with_reducible refine Kd.C_alloc ?_ _) | (with_reducible refine Kd.C_drewN ?_ _) | (with_reducible refine Kd.C_drew ?_))); (case side2 => exact (Kd.R_reads' HO117.out).2.1); rintro e w54 ⟨rfl, hb⟩; have n0_ := Aside0.mk (Kd.R_below (by (with_reducible repeat (first | apply Kd.R_alloc | apply Kd.R_drewN | apply Kd.R_drew)); exact HO117.out) hb); have n1_ := Aside0.mk (blk_below (g := gb119) (o := .cells #[.int .i64 t114, .slice Ao43 t115.length co43] 35 (0, 0)) (by (with_reducible repeat (first | refine blk_drewN ?_ _ | refine blk_drew ?_ | refine blk_alloc ?_ _)); exact BK119.out) hb); have n2_ := Aside0.mk (below_step (by repeat (first | (with_reducible first | exact HB.out | apply below_alloc | apply pw_below_drewN | apply below_drew1 | refine below_set ?_ GE119.out) | exact HB.out)) hb); clear HO117; clear BK119; clear HB; have HO117 := n0_; have BK119 := n1_; have HB := n2_; clear n0_ n1_ n2_; (try clear hb); (try clear hb2); (try clear hk); (try clear hi)))
                        go_ret
                        exact ⟨by first | rfl | (simp [errW_none, errW_some] <;> rfl) | (simp only [← hji8, ← hji10, ← hji12, ← hji14, ← hji16, ← hji17, ← hji19, ← hji32, ← hji38]; first | rfl | (simp [errW_none, errW_some] <;> rfl)) | (simp [*, errW_none, errW_some] <;> rfl), by repeat (first | (with_reducible first | exact HB.out | apply below_alloc | apply pw_below_drewN | apply below_drew1 | refine below_set ?_ GE119.out) | exact HB.out)⟩
                      · rw [if_neg c36] at H
                        have c36b0 : decide ((wrap64 (t121)) ≤ t127) = false := decide_eq_false c36
                        clear c36
                        exact absurd ((Option.some.inj H).trans HRT_.out) (by decide)
                    · rw [if_neg c34] at H
                      have c34b0 : decide (1 ≤ t121) = false := decide_eq_false c34
                      clear c34
                      exact absurd ((Option.some.inj H).trans HRT_.out) (by decide)
                  · rw [if_neg c33] at H
                    have c33b0 : decide (t120 < (ji32)) = false := decide_eq_false c33
                    clear c33
                    exact absurd ((Option.some.inj H).trans HRT_.out) (by decide)
                · rw [if_neg c30] at H
                  have c30b0 : ((wrap64 (t125)) == t126) = false := beq_eq_false_iff_ne.mpr c30
                  have c30b1 : ((wrap64 (t125)) != t126) = true := bne_iff_ne.mpr c30
                  exact absurd ((Option.some.inj H).trans HRT_.out) (by decide)
              · rw [if_neg c28] at H
                have c28b0 : (t120 == t124) = false := beq_eq_false_iff_ne.mpr c28
                have c28b1 : (t120 != t124) = true := bne_iff_ne.mpr c28
                exact absurd ((Option.some.inj H).trans HRT_.out) (by decide)
            · rw [if_neg c27] at H
              have c27b0 : (t120 == t122) = false := beq_eq_false_iff_ne.mpr c27
              have c27b1 : (t120 != t122) = true := bne_iff_ne.mpr c27
              exact absurd ((Option.some.inj H).trans HRT_.out) (by decide)
          · replace c26 := Bool.eq_false_iff.mpr c26
            subst c26
            have H1 : (some false) = some r := by rw [if_neg (show ¬ (false = true) by decide)] at H; exact H
            clear H
            have H := H1
            clear H1
            exact absurd ((Option.some.inj H).trans HRT_.out) (by decide)
        · rw [if_neg c18] at H
          exact absurd H (by simp)
      · rw [if_neg c13] at H
        exact absurd H (by simp)
    · rw [if_neg c9] at H
      exact absurd H (by simp)
  · replace c5 := Bool.eq_false_iff.mpr c5
    subst c5
    have H1 : (some false) = some r := by rw [if_neg (show ¬ (false = true) by decide)] at H; exact H
    clear H
    have H := H1
    clear H1
    exact absurd ((Option.some.inj H).trans HRT_.out) (by decide)
/-- THE ONE PURE STATEMENT of herbariumlaw13_HllPlaces: yours. -/
def herbariumlaw13_HllPlaces.Pure : Prop := ∀ (a0 : Int) (a1 : Int) (a2 : Int), (Lit.int .u8 a0).wf = true → (Lit.int .u64 a1).wf = true → (Lit.int .u8 a2).wf = true → herbariumlaw13_HllPlaces.f a0 a1 a2 = some true
theorem herbariumlaw13_HllPlaces.walk (P : herbariumlaw13_HllPlaces.Pure) (a0 : Int) (a1 : Int) (a2 : Int) (w : World) (w0 : (Lit.int .u8 a0).wf = true) (w1 : (Lit.int .u64 a1).wf = true) (w2 : (Lit.int .u8 a2).wf = true) :
    Calls Try.prog 5 #[.int .u8 a0, .int .u64 a1, .int .u8 a2] w fun e w' => e = .returned (.bool true) ∧ Below w.heap.size w w' := by
  have h := P a0 a1 a2 w0 w1 w2
  refine (herbariumlaw13_HllPlaces.calls a0 a1 a2 true w h rfl).mono ?_
  rintro e w' ⟨rfl, hd⟩
  exact ⟨rfl, hd⟩

end Go.Proofs.Ytolhhbnamldghaa.PHllPlaces
