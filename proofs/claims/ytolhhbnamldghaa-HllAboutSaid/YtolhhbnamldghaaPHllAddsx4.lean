-- Written by the kit's print.py over texts that my own driver gave it; not typed by hand.
import Derived.Test.YtolhhbnamldghaaPHllAddsx0
import Derived.Test.YtolhhbnamldghaaPHllAddsx1
import Derived.Test.YtolhhbnamldghaaPHllAddsx3
namespace Go.Proofs.Ytolhhbnamldghaa.PHllAdds
open Go.RowKit Go.Proofs.YtolhhbnamldghaaW.PrintWords Go.Proofs.YtolhhbnamldghaaW.PrintLast Go.Proofs.YtolhhbnamldghaaW.PrintMore
attribute [local go_sem] max2_int min2_int max_two min_two max_three min_three max_four min_four   -- for this text's walks alone
set_option linter.unusedVariables false
set_option linter.unusedSimpArgs false

/-! ### herbariumlaw13_HllAdds: function 11 -/
mutual
def herbariumlaw13_HllAdds.l0 : Nat → Int → List Int → List Int → Int → Int → Int → List Int → Option (Bool)
  | 0, _, _, _, _, _, _, _ => none
  | k + 1, x5, x7, x33, x34, x35, x148000, x148001 => if x35 < x34 then (if 0 ≤ x35 then (if x35 < (x33.length : Int) then ((herbariumlaw13_Hash.f (rd x33 x35)).bind fun t152 => (if 0 ≤ (wrap64 (64 - x5)) then (herbariumlaw13_HllAdds.l1 k x5 x7 t152 (wrap64 (shr .u64 t152 (wrap64 (64 - x5)))) 1 (wrap64 (63 - x5)) x33 x34 x35 x148000 x148001) else (none))) else (none)) else (none)) else (herbariumlaw13_HllAdds.l2 k x5 0 x7 (x7.length : Int) 0 x148000 x148001)
def herbariumlaw13_HllAdds.l1 : Nat → Int → List Int → Int → Int → Int → Int → List Int → Int → Int → Int → List Int → Option (Bool)
  | 0, _, _, _, _, _, _, _, _, _, _, _ => none
  | k + 1, x5, x7, x9, x10, x11, x12, x33, x34, x35, x148000, x148001 => if x12 ≥ 0 then (if 0 ≤ x12 then (if (Int.tmod (shr .u64 x9 x12) 2) = 0 then (herbariumlaw13_HllAdds.l1 k x5 x7 x9 x10 (wrap64 (x11 + 1)) (wrap64 (x12 - 1)) x33 x34 x35 x148000 x148001) else ((hll_Hll_Place.f x148000 x148001 x9).bind fun bt153 => (if bt153.1 = x10 then (if (wrap64 (bt153.2)) = x11 then (if 0 ≤ x10 then (if x10 < (x7.length : Int) then (herbariumlaw13_HllAdds.l0 k x5 (x7.set (x10 : Int).toNat (mx (rd x7 x10) x11)) x33 x34 (wrap64 (x35 + 1)) x148000 x148001) else (none)) else (none)) else (some false)) else (some false)))) else (none)) else ((hll_Hll_Place.f x148000 x148001 x9).bind fun bt157 => (if bt157.1 = x10 then (if (wrap64 (bt157.2)) = x11 then (if 0 ≤ x10 then (if x10 < (x7.length : Int) then (herbariumlaw13_HllAdds.l0 k x5 (x7.set (x10 : Int).toNat (mx (rd x7 x10) x11)) x33 x34 (wrap64 (x35 + 1)) x148000 x148001) else (none)) else (none)) else (some false)) else (some false)))
def herbariumlaw13_HllAdds.l2 : Nat → Int → Int → List Int → Int → Int → Int → List Int → Option (Bool)
  | 0, _, _, _, _, _, _, _ => none
  | k + 1, x5, x15, x86, x87, x88, x148000, x148001 => if x88 < x87 then (if 0 ≤ x88 then (if x88 < (x86.length : Int) then (if x88 < (x148001.length : Int) then (if (wrap64 (rd x148001 x88)) = (rd x86 x88) then (if (rd x86 x88) = 0 then (herbariumlaw13_HllAdds.l2 k x5 (wrap64 (x15 + 1)) x86 x87 (wrap64 (x88 + 1)) x148000 x148001) else (herbariumlaw13_HllAdds.l2 k x5 x15 x86 x87 (wrap64 (x88 + 1)) x148000 x148001)) else (some false)) else (none)) else (none)) else (none)) else ((hll_Hll_Check.f k x148000 x148001).bind fun t161 => (if t161 = 0 then ((hll_Hll_Noughts.f k x148000 x148001).bind fun t162 => (if t162 = x15 then ((hll_Hll_Top.f x148000 x148001).bind fun t163 => (some (t163 == (wrap64 (65 - x5))))) else (some false))) else (some false)))
end
def herbariumlaw13_HllAdds.f (k : Nat) (a0 : Int) (l1 : List Int) : Option (Bool) := (herbariumlaw13_Awake.f).bind fun t142 => (if t142 = true then (if (l1.length : Int) > 60 then (some true) else ((herbariumlaw13_Hll.f k a0 l1).bind fun bt143 => (if 0 ≤ (wrap64 (4 + (wrap64 (Int.tmod a0 5)))) then (if 0 ≤ (shl .i64 1 (wrap64 (4 + (wrap64 (Int.tmod a0 5))))) then (if (shl .i64 1 (wrap64 (4 + (wrap64 (Int.tmod a0 5)))) : Int).toNat ≤ 35184372088832 then (herbariumlaw13_HllAdds.l0 k (wrap64 (4 + (wrap64 (Int.tmod a0 5)))) (List.replicate (shl .i64 1 (wrap64 (4 + (wrap64 (Int.tmod a0 5)))) : Int).toNat 0) l1 (l1.length : Int) 0 bt143.1 bt143.2) else (none)) else (none)) else (none)))) else (some false))
theorem herbariumlaw13_HllAdds.mono_l : ∀ k, (∀ y0 y1 y2 y3 y4 y5 y6, LeO (herbariumlaw13_HllAdds.l0 k y0 y1 y2 y3 y4 y5 y6) (herbariumlaw13_HllAdds.l0 (k + 1) y0 y1 y2 y3 y4 y5 y6)) ∧ (∀ y0 y1 y2 y3 y4 y5 y6 y7 y8 y9 y10, LeO (herbariumlaw13_HllAdds.l1 k y0 y1 y2 y3 y4 y5 y6 y7 y8 y9 y10) (herbariumlaw13_HllAdds.l1 (k + 1) y0 y1 y2 y3 y4 y5 y6 y7 y8 y9 y10)) ∧ (∀ y0 y1 y2 y3 y4 y5 y6, LeO (herbariumlaw13_HllAdds.l2 k y0 y1 y2 y3 y4 y5 y6) (herbariumlaw13_HllAdds.l2 (k + 1) y0 y1 y2 y3 y4 y5 y6))
  | 0 => ⟨fun _ _ _ _ _ _ _ r h => by simp [herbariumlaw13_HllAdds.l0] at h, fun _ _ _ _ _ _ _ _ _ _ _ r h => by simp [herbariumlaw13_HllAdds.l1] at h, fun _ _ _ _ _ _ _ r h => by simp [herbariumlaw13_HllAdds.l2] at h⟩
  | k + 1 => by
    obtain ⟨ih0, ih1, ih2⟩ := herbariumlaw13_HllAdds.mono_l k
    refine ⟨?_, ?_, ?_⟩
    · intro y0 y1 y2 y3 y4 y5 y6
      unfold herbariumlaw13_HllAdds.l0
      repeat' first
      | (with_reducible exact ih0 _ _ _ _ _ _ _)
      | (with_reducible exact ih1 _ _ _ _ _ _ _ _ _ _ _)
      | (with_reducible exact ih2 _ _ _ _ _ _ _)
      | (with_reducible exact herbariumlaw13_Hll.mono _ _ _)
      | (with_reducible exact hll_Hll_Check.mono _ _ _)
      | (with_reducible exact hll_Hll_Noughts.mono _ _ _)
      | (with_reducible exact LeO.refl _)
      | (with_reducible exact LeO.none _)
      | (with_reducible refine LeO.ite ?_ ?_)
      | (with_reducible refine LeO.bind ?_ (fun _ => ?_))
      | exact ih0 _ _ _ _ _ _ _
      | exact ih1 _ _ _ _ _ _ _ _ _ _ _
      | exact ih2 _ _ _ _ _ _ _
      | exact herbariumlaw13_Hll.mono _ _ _
      | exact hll_Hll_Check.mono _ _ _
      | exact hll_Hll_Noughts.mono _ _ _
      | exact LeO.none _
      | refine LeO.ite ?_ ?_
      | refine LeO.bind ?_ (fun _ => ?_)
    · intro y0 y1 y2 y3 y4 y5 y6 y7 y8 y9 y10
      unfold herbariumlaw13_HllAdds.l1
      repeat' first
      | (with_reducible exact ih0 _ _ _ _ _ _ _)
      | (with_reducible exact ih1 _ _ _ _ _ _ _ _ _ _ _)
      | (with_reducible exact ih2 _ _ _ _ _ _ _)
      | (with_reducible exact herbariumlaw13_Hll.mono _ _ _)
      | (with_reducible exact hll_Hll_Check.mono _ _ _)
      | (with_reducible exact hll_Hll_Noughts.mono _ _ _)
      | (with_reducible exact LeO.refl _)
      | (with_reducible exact LeO.none _)
      | (with_reducible refine LeO.ite ?_ ?_)
      | (with_reducible refine LeO.bind ?_ (fun _ => ?_))
      | exact ih0 _ _ _ _ _ _ _
      | exact ih1 _ _ _ _ _ _ _ _ _ _ _
      | exact ih2 _ _ _ _ _ _ _
      | exact herbariumlaw13_Hll.mono _ _ _
      | exact hll_Hll_Check.mono _ _ _
      | exact hll_Hll_Noughts.mono _ _ _
      | exact LeO.none _
      | refine LeO.ite ?_ ?_
      | refine LeO.bind ?_ (fun _ => ?_)
    · intro y0 y1 y2 y3 y4 y5 y6
      unfold herbariumlaw13_HllAdds.l2
      repeat' first
      | (with_reducible exact ih0 _ _ _ _ _ _ _)
      | (with_reducible exact ih1 _ _ _ _ _ _ _ _ _ _ _)
      | (with_reducible exact ih2 _ _ _ _ _ _ _)
      | (with_reducible exact herbariumlaw13_Hll.mono _ _ _)
      | (with_reducible exact hll_Hll_Check.mono _ _ _)
      | (with_reducible exact hll_Hll_Noughts.mono _ _ _)
      | (with_reducible exact LeO.refl _)
      | (with_reducible exact LeO.none _)
      | (with_reducible refine LeO.ite ?_ ?_)
      | (with_reducible refine LeO.bind ?_ (fun _ => ?_))
      | exact ih0 _ _ _ _ _ _ _
      | exact ih1 _ _ _ _ _ _ _ _ _ _ _
      | exact ih2 _ _ _ _ _ _ _
      | exact herbariumlaw13_Hll.mono _ _ _
      | exact hll_Hll_Check.mono _ _ _
      | exact hll_Hll_Noughts.mono _ _ _
      | exact LeO.none _
      | refine LeO.ite ?_ ?_
      | refine LeO.bind ?_ (fun _ => ?_)
theorem herbariumlaw13_HllAdds.mono : ∀ a0 a1 k, LeO (herbariumlaw13_HllAdds.f k a0 a1) (herbariumlaw13_HllAdds.f (k + 1) a0 a1) := by
  intro a0 a1 k
  obtain ⟨ih0, ih1, ih2⟩ := herbariumlaw13_HllAdds.mono_l k
  unfold herbariumlaw13_HllAdds.f
  repeat' first
      | (with_reducible exact ih0 _ _ _ _ _ _ _)
      | (with_reducible exact ih1 _ _ _ _ _ _ _ _ _ _ _)
      | (with_reducible exact ih2 _ _ _ _ _ _ _)
      | (with_reducible exact herbariumlaw13_Hll.mono _ _ _)
      | (with_reducible exact hll_Hll_Check.mono _ _ _)
      | (with_reducible exact hll_Hll_Noughts.mono _ _ _)
      | (with_reducible exact LeO.refl _)
      | (with_reducible exact LeO.none _)
      | (with_reducible refine LeO.ite ?_ ?_)
      | (with_reducible refine LeO.bind ?_ (fun _ => ?_))
      | exact ih0 _ _ _ _ _ _ _
      | exact ih1 _ _ _ _ _ _ _ _ _ _ _
      | exact ih2 _ _ _ _ _ _ _
      | exact herbariumlaw13_Hll.mono _ _ _
      | exact hll_Hll_Check.mono _ _ _
      | exact hll_Hll_Noughts.mono _ _ _
      | exact LeO.none _
      | refine LeO.ite ?_ ?_
      | refine LeO.bind ?_ (fun _ => ?_)
set_option maxHeartbeats 8000000 in
set_option maxRecDepth 100000 in
theorem herbariumlaw13_HllAdds.calls (k : Nat) (a0 : Int) (A1 : Option Addr) (c1 : Nat) (l1 : List Int) (r : Bool) (w : World) (hr1 : Kd.C (Kd.int .u64) w A1 l1.length l1) (hc1 : l1.length ≤ c1) (h : herbariumlaw13_HllAdds.f k a0 l1 = some r) :
    Calls Try.prog 11 #[.int .u8 a0, .slice A1 l1.length c1] w fun e w' => e = .returned (.bool r) ∧ Below w.heap.size w w' := by
  have hu35 := Try.underlying35
  have HR1 := Aside0.mk hr1
  have HC1 := Aside0.mk hc1
  clear hr1 hc1
  have HB := Aside0.mk (Below.refl w.heap.size w)
  have H : ((herbariumlaw13_Awake.f).bind fun t142 => (if t142 = true then (if (l1.length : Int) > 60 then (some true) else ((herbariumlaw13_Hll.f k a0 l1).bind fun bt143 => (if 0 ≤ (wrap64 (4 + (wrap64 (Int.tmod a0 5)))) then (if 0 ≤ (shl .i64 1 (wrap64 (4 + (wrap64 (Int.tmod a0 5))))) then (if (shl .i64 1 (wrap64 (4 + (wrap64 (Int.tmod a0 5)))) : Int).toNat ≤ 35184372088832 then (herbariumlaw13_HllAdds.l0 k (wrap64 (4 + (wrap64 (Int.tmod a0 5)))) (List.replicate (shl .i64 1 (wrap64 (4 + (wrap64 (Int.tmod a0 5)))) : Int).toNat 0) l1 (l1.length : Int) 0 bt143.1 bt143.2) else (none)) else (none)) else (none)))) else (some false))) = some r := h
  clear h
  replace H := Option.bind_eq_some_iff.mp H
  obtain ⟨t142, A30, H⟩ := H
  replace H : (if t142 = true then (if (l1.length : Int) > 60 then (some true) else ((herbariumlaw13_Hll.f k a0 l1).bind fun bt143 => (if 0 ≤ (wrap64 (4 + (wrap64 (Int.tmod a0 5)))) then (if 0 ≤ (shl .i64 1 (wrap64 (4 + (wrap64 (Int.tmod a0 5))))) then (if (shl .i64 1 (wrap64 (4 + (wrap64 (Int.tmod a0 5)))) : Int).toNat ≤ 35184372088832 then (herbariumlaw13_HllAdds.l0 k (wrap64 (4 + (wrap64 (Int.tmod a0 5)))) (List.replicate (shl .i64 1 (wrap64 (4 + (wrap64 (Int.tmod a0 5)))) : Int).toNat 0) l1 (l1.length : Int) 0 bt143.1 bt143.2) else (none)) else (none)) else (none)))) else (some false)) = some r := H
  have A3 := Aside0.mk A30
  clear A30
  by_cases c4 : t142 = true
  · subst c4
    have H1 : (if (l1.length : Int) > 60 then (some true) else ((herbariumlaw13_Hll.f k a0 l1).bind fun bt143 => (if 0 ≤ (wrap64 (4 + (wrap64 (Int.tmod a0 5)))) then (if 0 ≤ (shl .i64 1 (wrap64 (4 + (wrap64 (Int.tmod a0 5))))) then (if (shl .i64 1 (wrap64 (4 + (wrap64 (Int.tmod a0 5)))) : Int).toNat ≤ 35184372088832 then (herbariumlaw13_HllAdds.l0 k (wrap64 (4 + (wrap64 (Int.tmod a0 5)))) (List.replicate (shl .i64 1 (wrap64 (4 + (wrap64 (Int.tmod a0 5)))) : Int).toNat 0) l1 (l1.length : Int) 0 bt143.1 bt143.2) else (none)) else (none)) else (none)))) = some r := by rw [if_pos rfl] at H; exact H
    clear H
    have H := H1
    clear H1
    by_cases c5 : (l1.length : Int) > 60
    · rw [if_pos c5] at H
      have c5b0 : decide (60 < (l1.length : Int)) = true := decide_eq_true c5
      have c5b1 : decide (60 < l1.length) = true := decide_eq_true (by omega)
      clear c5
      obtain rfl := Option.some.inj H
      go_enter Try.func11, Try.ntmps11
      go_wp2_with (first | ((with_reducible refine gate_callee (f := 17) rfl ?_); refine goesL_ (some 18) rfl rfl Try.func17 (by kernel_rfl) rfl #[] rfl (by (try simp only [List.map_toArray, List.map_cons, List.map_nil]); first | done | rfl | (simp only [List.length_drop, List.length_take]; rfl)) ?_; (with_reducible refine (herbariumlaw13_Awake.calls  true _ A3.out).mono ?_); rintro e w6 ⟨rfl, hb⟩; refine ⟨_, rfl, ?_⟩; have n0_ := Aside0.mk (below_step (by repeat (first | (with_reducible first | exact HB.out | apply below_alloc | apply pw_below_drewN | apply below_drew1) | exact HB.out)) hb); clear HB; have HB := n0_; clear n0_; (try clear hb); (try clear hb2); (try clear hk); (try clear hi)))
      go_ret
      exact ⟨by first | rfl | (simp [errW_none, errW_some] <;> rfl) | (simp [*, errW_none, errW_some] <;> rfl), by repeat (first | (with_reducible first | exact HB.out | apply below_alloc | apply pw_below_drewN | apply below_drew1) | exact HB.out)⟩
    · rw [if_neg c5] at H
      have c5b0 : decide (60 < (l1.length : Int)) = false := decide_eq_false c5
      have c5b1 : decide (60 < l1.length) = false := decide_eq_false (by omega)
      clear c5
      replace H := Option.bind_eq_some_iff.mp H
      obtain ⟨⟨t143, t144⟩, A70, H⟩ := H
      replace H : (if 0 ≤ (wrap64 (4 + (wrap64 (Int.tmod a0 5)))) then (if 0 ≤ (shl .i64 1 (wrap64 (4 + (wrap64 (Int.tmod a0 5))))) then (if (shl .i64 1 (wrap64 (4 + (wrap64 (Int.tmod a0 5)))) : Int).toNat ≤ 35184372088832 then (herbariumlaw13_HllAdds.l0 k (wrap64 (4 + (wrap64 (Int.tmod a0 5)))) (List.replicate (shl .i64 1 (wrap64 (4 + (wrap64 (Int.tmod a0 5)))) : Int).toNat 0) l1 (l1.length : Int) 0 t143 t144) else (none)) else (none)) else (none)) = some r := H
      have A7 := Aside0.mk A70
      clear A70
      obtain ⟨ji8, hji8⟩ : ∃ j_ : Int, (wrap64 (4 + (wrap64 (Int.tmod a0 5)))) = j_ := ⟨_, rfl⟩
      replace H : (if 0 ≤ (ji8) then (if 0 ≤ (shl .i64 1 (ji8)) then (if (shl .i64 1 (ji8) : Int).toNat ≤ 35184372088832 then (herbariumlaw13_HllAdds.l0 k ji8 (List.replicate (shl .i64 1 (ji8) : Int).toNat 0) l1 (l1.length : Int) 0 t143 t144) else (none)) else (none)) else (none)) = some r := by first | (rw [hji8] at H; exact H) | (simp only [hji8] at H ⊢; exact H)
      (try rw [hji8] at A3)
      (try rw [hji8] at A7)
      have hji8w : (IntKind.i64.wrap (4 + (wrap64 (Int.tmod a0 5)))) = ji8 := (i64_w _).trans hji8
      by_cases c9 : 0 ≤ (ji8)
      · rw [if_pos c9] at H
        have c9b0 := eq_true c9
        have c9b1 : decide (0 ≤ (ji8)) = true := decide_eq_true c9
        clear c9
        obtain ⟨ji10, hji10⟩ : ∃ j_ : Int, (shl .i64 1 (ji8)) = j_ := ⟨_, rfl⟩
        replace H : (if 0 ≤ (ji10) then (if (ji10 : Int).toNat ≤ 35184372088832 then (herbariumlaw13_HllAdds.l0 k ji8 (List.replicate (ji10 : Int).toNat 0) l1 (l1.length : Int) 0 t143 t144) else (none)) else (none)) = some r := by first | (rw [hji10] at H; exact H) | (simp only [hji10] at H ⊢; exact H)
        (try rw [hji10] at A3)
        (try rw [hji10] at A7)
        have hji10_ : (IntKind.i64.wrap (1 * 2 ^ min (ji8).toNat 64)) = ji10 := hji10
        have hji10z : (ji8) ≤ 64 → (IntKind.i64.wrap (1 * 2 ^ (ji8).toNat)) = ji10 := shl_small hji10
        have hji10u : (IntKind.i64.wrap (2 ^ min (ji8).toNat 64)) = ji10 := by have h_ := hji10_; rw [Int.one_mul] at h_; exact h_
        have hji10v : (ji8) ≤ 64 → (IntKind.i64.wrap (2 ^ (ji8).toNat)) = ji10 := fun hle_ => by have h_ := hji10z hle_; rw [Int.one_mul] at h_; exact h_
        have hji10y : (wrap64 (1 * 2 ^ min (ji8).toNat 64)) = ji10 := (i64_w _).symm.trans hji10_
        have hji10x : (ji8) ≤ 64 → (wrap64 (1 * 2 ^ (ji8).toNat)) = ji10 := fun h_ => (i64_w _).symm.trans (hji10z h_)
        by_cases c11 : 0 ≤ (ji10)
        · rw [if_pos c11] at H
          have c11b0 := eq_true c11
          have c11b1 : decide (0 ≤ (ji10)) = true := decide_eq_true c11
          clear c11
          by_cases c12 : (ji10 : Int).toNat ≤ 35184372088832
          · rw [if_pos c12] at H
            have c12b0 := eq_true c12
            have c12b1 : decide ((ji10 : Int).toNat ≤ 35184372088832) = true := decide_eq_true c12
            clear c12
            obtain ⟨y148, hy148⟩ : ∃ y_ : List Int, y_ = (List.replicate (ji10 : Int).toNat 0) := ⟨_, rfl⟩
            replace H : (herbariumlaw13_HllAdds.l0 k ji8 y148 l1 (l1.length : Int) 0 t143 t144) = some r := by first | (rw [hy148]; with_reducible exact H) | (have H2_ := (Option.bind_some _ _).symm.trans H; rw [hy148]; with_reducible exact H2_) | (have H2_ := (Option.bind_some _ _).symm.trans H; with_reducible exact H2_) | with_reducible exact H | (rw [hy148]; exact H) | exact H
            have Ny148 := Aside0.mk hy148
            clear hy148
            have H' := Aside0.mk H
            clear H
            go_enter Try.func11, Try.ntmps11
            go_wp2_with (first | ((with_reducible refine gate_callee (f := 17) rfl ?_); refine goesL_ (some 18) rfl rfl Try.func17 (by kernel_rfl) rfl #[] rfl (by (try simp only [List.map_toArray, List.map_cons, List.map_nil]); first | done | rfl | (simp only [List.length_drop, List.length_take]; rfl)) ?_; (with_reducible refine (herbariumlaw13_Awake.calls  true _ A3.out).mono ?_); rintro e w13 ⟨rfl, hb⟩; refine ⟨_, rfl, ?_⟩; have n0_ := Aside0.mk (below_step (by repeat (first | (with_reducible first | exact HB.out | apply below_alloc | apply pw_below_drewN | apply below_drew1) | exact HB.out)) hb); clear HB; have HB := n0_; clear n0_; (try clear hb); (try clear hb2); (try clear hk); (try clear hi)) | ((with_reducible refine gate_callee (f := 27) rfl ?_); refine goesL_ (some 29) rfl rfl Try.func27 (by kernel_rfl) rfl #[.int .u8 a0, .slice A1 l1.length c1] rfl (by (try simp only [List.map_toArray, List.map_cons, List.map_nil]); first | done | rfl | (simp only [List.length_drop, List.length_take]; rfl)) ?_; (with_reducible refine (herbariumlaw13_Hll.calls k a0 _ _ l1 t143 t144 _ ?side1 ?side2 A7.out).mono ?_); (case side1 => repeat (first | exact (Kd.C_below HR1.out HB.out) | (with_reducible refine Kd.C_alloc ?_ _) | (with_reducible refine Kd.C_drewN ?_ _) | (with_reducible refine Kd.C_drew ?_))); (case side2 => exact HC1.out); rintro e w14 ⟨v145, rfl, ho0, hb⟩; refine ⟨_, rfl, ?_⟩; have n0_ := Aside0.mk (Kd.R_lower ho0 (below_size (by repeat (first | (with_reducible first | exact HB.out | apply below_alloc | apply pw_below_drewN | apply below_drew1) | exact HB.out)))); have n1_ := Aside0.mk (below_step (by repeat (first | (with_reducible first | exact HB.out | apply below_alloc | apply pw_below_drewN | apply below_drew1) | exact HB.out)) hb); clear HB; have HO146 := n0_; have HB := n1_; clear n0_ n1_; (try clear hb); (try clear hb2); (try clear hk); (try clear hi); (try clear ho0)) | ((with_reducible refine gate_dst (N := 6) rfl ?_); refine box_event ?hg (N := 6) ?hd (cs := #[.int .i64 0, .slice none 0 0]) (t := 35) ?hr ?_; (case hd => rfl); (case hg => rfl); (case hr => first | (go_simp; done) | (go_simp; rfl)); intro gb147 hg w15 hbox hb; have n0_ := Aside0.mk (Kd.R_below (by (with_reducible repeat (first | apply Kd.R_alloc | apply Kd.R_drewN | apply Kd.R_drew)); exact HO146.out) hb); have n1_ := Aside0.mk (below_step (by repeat (first | (with_reducible first | exact HB.out | apply below_alloc | apply pw_below_drewN | apply below_drew1) | exact HB.out)) hb); have n2_ := Aside0.mk (hbox); have n3_ := Aside0.mk ((by rw [hg]; exact (below_size (by repeat (first | (with_reducible first | exact HB.out | apply below_alloc | apply pw_below_drewN | apply below_drew1) | exact HB.out))) : w.heap.size ≤ gb147)); have n4_ := Aside0.mk ((by rw [hg]; exact (below_size (by repeat (first | (with_reducible first | exact HB.out | apply below_alloc | apply pw_below_drewN | apply below_drew1) | exact HB.out))) : w.heap.size ≤ gb147)); clear HO146; clear HB; have HO146 := n0_; have HB := n1_; have BK147 := n2_; have GW147 := n3_; have GE147 := n4_; clear n0_ n1_ n2_ n3_ n4_; clear hb hbox hg; have hcz16_0 : w15.cell? ⟨gb147, 0, none⟩ = some (.int .i64 0) := (blk_cell BK147.out 0).trans rfl; have hcz16_1 : w15.cell? ⟨gb147, 1, none⟩ = some (.slice none 0 0) := (blk_cell BK147.out 1).trans rfl; have hfz16_0 := blk_frozen BK147.out 0; have hfz16_1 := blk_frozen BK147.out 1; obtain ⟨Ao17, co17, eo17⟩ := Kd.R_slice HO146.out; subst eo17) | ((with_reducible refine gate_dst (N := 32) rfl ?_); refine Kd.R_make (Kd.int .i64) _ 3 rfl (N := 32) rfl 64 _ _ rfl ji10 rfl rfl Try.underlying64 (.int .i64 0) 8 info3 rfl (by decide) (by omega) 0 (ok := fun _ => True) (okp := fun _ => True) rfl (fun _ hk => hk) trivial (of_decide_eq_true (by first | (with_reducible assumption) | assumption)) (Nat.le_trans (Nat.mul_le_mul_right _ (of_decide_eq_true (by first | (with_reducible assumption) | assumption) : ji10.toNat ≤ 35184372088832)) (by omega)) (Below.refl _ _) (Nat.le_refl _) ?_; intro v149 w18 ho19 hb hg_ hnew_; clear hg_ hnew_; (first | rw [← Ny148.out] at ho19 | (simp only [Int.reduceToNat] at ho19; rw [← Ny148.out] at ho19)); have n0_ := Aside0.mk (Kd.R_below (by (with_reducible repeat (first | apply Kd.R_alloc | apply Kd.R_drewN | apply Kd.R_drew)); exact (Kd.R_mono (Kd.R_far (p := ⟨gb147, 1, none⟩) (Kd.R_far (p := ⟨gb147, 0, none⟩) (Kd.R_types HO146.out BK147.out (by decide)) (fun _ hk => hk.2) (.int .i64 t143)) (fun _ hk => hk.2) (.slice Ao17 t144.length co17)) (fun _ h_ => h_.1))) hb); have n1_ := Aside0.mk (Kd.R_lower ho19 (below_size (by repeat (first | (with_reducible first | exact HB.out | apply below_alloc | apply pw_below_drewN | apply below_drew1 | refine below_set ?_ GE147.out) | exact HB.out)))); have n2_ := Aside0.mk (blk_below (g := gb147) (o := .cells #[.int .i64 t143, .slice Ao17 t144.length co17] 35 (0, 0)) (by (with_reducible repeat (first | refine blk_drewN ?_ _ | refine blk_drew ?_ | refine blk_alloc ?_ _)); refine blk_put (cs := #[.int .i64 t143, .slice none 0 0]) ?_ 1 _ rfl; (with_reducible repeat (first | refine blk_drewN ?_ _ | refine blk_drew ?_ | refine blk_alloc ?_ _)); refine blk_put (cs := #[.int .i64 0, .slice none 0 0]) ?_ 0 _ rfl; (with_reducible repeat (first | refine blk_drewN ?_ _ | refine blk_drew ?_ | refine blk_alloc ?_ _)); exact BK147.out) hb); have n3_ := Aside0.mk (below_step (by repeat (first | (with_reducible first | exact HB.out | apply below_alloc | apply pw_below_drewN | apply below_drew1 | refine below_set ?_ GE147.out) | exact HB.out)) hb); clear HO146; clear BK147; clear HB; have HO146 := n0_; have HO150 := n1_; have BK147 := n2_; have HB := n3_; clear n0_ n1_ n2_ n3_; clear hb ho19))
            go_loopg [35] k (fun kq v35 w' => ∃ (x7_1 : List Int) (x35_1 : Int), v35 = .int .i64 x35_1 ∧ Aside0 (herbariumlaw13_HllAdds.l0 kq ji8 x7_1 l1 (l1.length : Int) x35_1 t143 t144 = some r) ∧ Aside0 (kq ≤ k) ∧ Aside0 (Kd.R (Kd.int .i64) 3 w' w.heap.size (fun _ => True) v149 x7_1) ∧ Aside0 (Kd.R (Kd.int .u8) 5 w' w.heap.size (fun _ => True) (.slice Ao17 t144.length co17) t144) ∧ Aside0 (w'.heap[gb147]? = some (.cells #[.int .i64 t143, (.slice Ao17 t144.length co17)] 35 (0, 0))) ∧ Aside0 (Below w.heap.size w w'))
            case atStart => exact ⟨(y148), (0), (by first | rfl | (simp; done) | (simp [*]; done)), H', ⟨Nat.le_refl _⟩, ⟨by (with_reducible repeat (first | apply Kd.R_alloc | apply Kd.R_drewN | apply Kd.R_drew)); exact HO150.out⟩, ⟨by (with_reducible repeat (first | apply Kd.R_alloc | apply Kd.R_drewN | apply Kd.R_drew)); exact HO146.out⟩, ⟨by (with_reducible repeat (first | refine blk_drewN ?_ _ | refine blk_drew ?_ | refine blk_alloc ?_ _)); exact BK147.out⟩, ⟨by repeat (first | (with_reducible first | exact HB.out | apply below_alloc | apply pw_below_drewN | apply below_drew1 | refine below_set ?_ GE147.out) | exact HB.out)⟩⟩
            case round =>
              clear H'
              try clear c1
              try clear c2
              try clear p2
              try clear c4
              try clear c5
              try clear c5b0
              try clear c5b1
              try clear p6
              try clear c9
              try clear c9b0
              try clear c9b1
              try clear c11
              try clear c11b0
              try clear c11b1
              try clear c12
              try clear c12b0
              try clear c12b1
              try clear c17
              try clear hcz16_0
              try clear hcz16_1
              try clear hfz16_0
              try clear hfz16_1
              obtain ⟨x7_1, x35_1, rfl, HA, HK1, HO_7, HO_148001, BK147, HB⟩ := hrel
              cases gk with
              | zero => exact absurd HA.out (by simp [herbariumlaw13_HllAdds.l0])
              | succ k1 =>
                have H := HA.out
                clear HA
                simp only [herbariumlaw13_HllAdds.l0] at H
                by_cases c20 : x35_1 < (l1.length : Int)
                · rw [if_pos c20] at H
                  have c20b0 : decide (x35_1 < (l1.length : Int)) = true := decide_eq_true c20
                  clear c20
                  by_cases c21 : 0 ≤ x35_1
                  · rw [if_pos c21] at H
                    have c21b0 : decide (0 ≤ x35_1) = true := decide_eq_true c21
                    clear c21
                    by_cases c22 : x35_1 < (l1.length : Int)
                    · rw [if_pos c22] at H
                      have c22b0 : decide (x35_1 < (l1.length : Int)) = true := decide_eq_true c22
                      clear c22
                      replace H := Option.bind_eq_some_iff.mp H
                      obtain ⟨t152, A230, H⟩ := H
                      replace H : (if 0 ≤ (wrap64 (64 - ji8)) then (herbariumlaw13_HllAdds.l1 k1 ji8 x7_1 t152 (wrap64 (shr .u64 t152 (wrap64 (64 - ji8)))) 1 (wrap64 (63 - ji8)) l1 (l1.length : Int) x35_1 t143 t144) else (none)) = some r := H
                      have A23 := Aside0.mk A230
                      clear A230
                      obtain ⟨ji24, hji24⟩ : ∃ j_ : Int, (wrap64 (64 - ji8)) = j_ := ⟨_, rfl⟩
                      replace H : (if 0 ≤ (ji24) then (herbariumlaw13_HllAdds.l1 k1 ji8 x7_1 t152 (wrap64 (shr .u64 t152 (ji24))) 1 (wrap64 (63 - ji8)) l1 (l1.length : Int) x35_1 t143 t144) else (none)) = some r := by first | (rw [hji24] at H; exact H) | (simp only [hji24] at H ⊢; exact H)
                      (try rw [hji24] at A23)
                      have hji24w : (IntKind.i64.wrap (64 - ji8)) = ji24 := (i64_w _).trans hji24
                      by_cases c25 : 0 ≤ (ji24)
                      · rw [if_pos c25] at H
                        have c25b0 := eq_true c25
                        have c25b1 : decide (0 ≤ (ji24)) = true := decide_eq_true c25
                        clear c25
                        obtain ⟨ji26, hji26⟩ : ∃ j_ : Int, (shr .u64 t152 (ji24)) = j_ := ⟨_, rfl⟩
                        replace H : (herbariumlaw13_HllAdds.l1 k1 ji8 x7_1 t152 (wrap64 (ji26)) 1 (wrap64 (63 - ji8)) l1 (l1.length : Int) x35_1 t143 t144) = some r := by first | (rw [hji26] at H; exact H) | (simp only [hji26] at H ⊢; exact H)
                        (try rw [hji26] at A23)
                        have hji26_ : (t152 / 2 ^ min (ji24).toNat 64) = ji26 := hji26
                        have hji26z : (ji24) ≤ 64 → (t152 / 2 ^ (ji24).toNat) = ji26 := shr_small hji26
                        have H' := Aside0.mk H
                        clear H
                        have p151 : 0 ≤ (x35_1 : Int) := of_decide_eq_true (by first | (with_reducible assumption) | assumption)
                        have q151 : x35_1 < (l1.length : Int) := of_decide_eq_true (by first | (with_reducible assumption) | assumption)
                        obtain ⟨ad151, e151, hx151_0⟩ := Kd.at_int HR1.out x35_1 p151 q151
                        cases e151
                        replace hx151_0 := (HB.out.cell (World.block_lt_of_cell? w _ hx151_0)).trans hx151_0
                        replace p151 := eq_true p151
                        replace q151 := eq_true q151
                        go_wp2_with (first | ((with_reducible refine gate_callee (f := 34) rfl ?_); refine goesL_ (some 40) rfl rfl Try.func34 (by kernel_rfl) rfl #[.int .u64 (rd l1 x35_1)] rfl (by (try simp only [List.map_toArray, List.map_cons, List.map_nil]); first | done | rfl | (simp only [List.length_drop, List.length_take]; rfl)) ?_; (with_reducible refine (herbariumlaw13_Hash.calls (rd l1 x35_1) t152 _ A23.out).mono ?_); rintro e w' ⟨rfl, ⟨nd, rfl⟩⟩; refine ⟨_, rfl, ?_⟩))
                        go_loopg [11, 12] k1 (fun kq v11 v12 w' => ∃ (x11_2 : Int) (x12_2 : Int), v11 = .int .i64 x11_2 ∧ v12 = .int .i64 x12_2 ∧ Aside0 (herbariumlaw13_HllAdds.l1 kq ji8 x7_1 t152 (wrap64 (ji26)) x11_2 x12_2 l1 (l1.length : Int) x35_1 t143 t144 = some r) ∧ Aside0 (kq ≤ k1) ∧ Aside0 (Kd.R (Kd.int .i64) 3 w' w.heap.size (fun _ => True) v149 x7_1) ∧ Aside0 (Kd.R (Kd.int .u8) 5 w' w.heap.size (fun _ => True) (.slice Ao17 t144.length co17) t144) ∧ Aside0 (w'.heap[gb147]? = some (.cells #[.int .i64 t143, (.slice Ao17 t144.length co17)] 35 (0, 0))) ∧ Aside0 (Below w.heap.size w w'))
                        case atStart => exact ⟨(1), (wrap64 (63 - ji8)), (by first | rfl | (simp; done) | (simp [*]; done)), (by first | rfl | (simp; done) | (simp only [← hji8] <;> (first | rfl | simp)) | (simp [*]; done)), H', ⟨Nat.le_refl _⟩, ⟨by (with_reducible repeat (first | apply Kd.R_alloc | apply Kd.R_drewN | apply Kd.R_drew)); exact HO_7.out⟩, ⟨by (with_reducible repeat (first | apply Kd.R_alloc | apply Kd.R_drewN | apply Kd.R_drew)); exact HO_148001.out⟩, ⟨by (with_reducible repeat (first | refine blk_drewN ?_ _ | refine blk_drew ?_ | refine blk_alloc ?_ _)); exact BK147.out⟩, ⟨by repeat (first | (with_reducible first | exact HB.out | apply below_alloc | apply pw_below_drewN | apply below_drew1 | refine below_set ?_ GE147.out) | exact HB.out)⟩⟩
                        case round =>
                          clear H'
                          try clear c1
                          try clear p1
                          try clear q1
                          try clear hx1
                          try clear c2
                          try clear p2
                          try clear c3
                          try clear c4
                          try clear c5
                          try clear c5b0
                          try clear c5b1
                          try clear p6
                          try clear c9
                          try clear c9b0
                          try clear c9b1
                          try clear c11
                          try clear c11b0
                          try clear c11b1
                          try clear c12
                          try clear c12b0
                          try clear c12b1
                          try clear p15
                          try clear q15
                          try clear hx15
                          try clear c17
                          try clear c20
                          try clear c20b0
                          try clear c21
                          try clear c21b0
                          try clear c22
                          try clear c22b0
                          try clear c25
                          try clear c25b0
                          try clear c25b1
                          try clear hcz16_0
                          try clear hcz16_1
                          try clear hfz16_0
                          try clear hfz16_1
                          try clear hx151_0
                          try clear p151
                          try clear p2
                          try clear p6
                          try clear q151
                          obtain ⟨x11_2, x12_2, rfl, rfl, HA, HK2, HO_7, HO_148001, BK147, HB⟩ := hrel
                          cases gk with
                          | zero => exact absurd HA.out (by simp [herbariumlaw13_HllAdds.l1])
                          | succ k2 =>
                            have H := HA.out
                            clear HA
                            simp only [herbariumlaw13_HllAdds.l1] at H
                            by_cases c27 : x12_2 ≥ 0
                            · rw [if_pos c27] at H
                              have c27b0 : decide (0 ≤ x12_2) = true := decide_eq_true c27
                              clear c27
                              by_cases c28 : 0 ≤ x12_2
                              · rw [if_pos c28] at H
                                have c28b0 := eq_true c28
                                have c28b1 : decide (0 ≤ x12_2) = true := decide_eq_true c28
                                clear c28
                                obtain ⟨ji29, hji29⟩ : ∃ j_ : Int, (shr .u64 t152 x12_2) = j_ := ⟨_, rfl⟩
                                replace H : (if (Int.tmod (ji29) 2) = 0 then (herbariumlaw13_HllAdds.l1 k2 ji8 x7_1 t152 (wrap64 (ji26)) (wrap64 (x11_2 + 1)) (wrap64 (x12_2 - 1)) l1 (l1.length : Int) x35_1 t143 t144) else ((hll_Hll_Place.f t143 t144 t152).bind fun bt153 => (if bt153.1 = (wrap64 (ji26)) then (if (wrap64 (bt153.2)) = x11_2 then (if 0 ≤ (wrap64 (ji26)) then (if (wrap64 (ji26)) < (x7_1.length : Int) then (herbariumlaw13_HllAdds.l0 k2 ji8 (x7_1.set ((wrap64 (ji26)) : Int).toNat (mx (rd x7_1 (wrap64 (ji26))) x11_2)) l1 (l1.length : Int) (wrap64 (x35_1 + 1)) t143 t144) else (none)) else (none)) else (some false)) else (some false)))) = some r := by first | (rw [hji29] at H; exact H) | (simp only [hji29] at H ⊢; exact H)
                                have hji29_ : (t152 / 2 ^ min x12_2.toNat 64) = ji29 := hji29
                                have hji29z : x12_2 ≤ 64 → (t152 / 2 ^ x12_2.toNat) = ji29 := shr_small hji29
                                by_cases c30 : (Int.tmod (ji29) 2) = 0
                                · rw [if_pos c30] at H
                                  have c30b0 : ((Int.tmod (ji29) 2) == 0) = true := beq_iff_eq.mpr c30
                                  have c30b1 : ((Int.tmod (ji29) 2) != 0) = false := bne_eq_false_iff_eq.mpr c30
                                  clear c30
                                  have H' := Aside0.mk H
                                  clear H
                                  go_wp2
                                  go_roundg k2
                                  case measure => have := HK1.out; have := HK2.out; omega
                                  case rel => exact ⟨(wrap64 (x11_2 + 1)), (wrap64 (x12_2 - 1)), (by first | rfl | (simp; done) | (simp [*]; done)), (by first | rfl | (simp; done) | (simp [*]; done)), H', ⟨by have := HK1.out; have := HK2.out; omega⟩, ⟨by (with_reducible repeat (first | apply Kd.R_alloc | apply Kd.R_drewN | apply Kd.R_drew)); exact HO_7.out⟩, ⟨by (with_reducible repeat (first | apply Kd.R_alloc | apply Kd.R_drewN | apply Kd.R_drew)); exact HO_148001.out⟩, ⟨by (with_reducible repeat (first | refine blk_drewN ?_ _ | refine blk_drew ?_ | refine blk_alloc ?_ _)); exact BK147.out⟩, ⟨by repeat (first | (with_reducible first | exact HB.out | apply below_alloc | apply pw_below_drewN | apply below_drew1 | refine below_set ?_ GE147.out) | exact HB.out)⟩⟩
                                · rw [if_neg c30] at H
                                  have c30b0 : ((Int.tmod (ji29) 2) == 0) = false := beq_eq_false_iff_ne.mpr c30
                                  have c30b1 : ((Int.tmod (ji29) 2) != 0) = true := bne_iff_ne.mpr c30
                                  replace H := Option.bind_eq_some_iff.mp H
                                  obtain ⟨⟨t153, t154⟩, A310, H⟩ := H
                                  replace H : (if t153 = (wrap64 (ji26)) then (if (wrap64 (t154)) = x11_2 then (if 0 ≤ (wrap64 (ji26)) then (if (wrap64 (ji26)) < (x7_1.length : Int) then (herbariumlaw13_HllAdds.l0 k2 ji8 (x7_1.set ((wrap64 (ji26)) : Int).toNat (mx (rd x7_1 (wrap64 (ji26))) x11_2)) l1 (l1.length : Int) (wrap64 (x35_1 + 1)) t143 t144) else (none)) else (none)) else (some false)) else (some false)) = some r := H
                                  have A31 := Aside0.mk A310
                                  clear A310
                                  by_cases c32 : t153 = (wrap64 (ji26))
                                  · rw [if_pos c32] at H
                                    have c32b0 : (t153 == (wrap64 (ji26))) = true := beq_iff_eq.mpr c32
                                    have c32b1 : (t153 != (wrap64 (ji26))) = false := bne_eq_false_iff_eq.mpr c32
                                    clear c32
                                    by_cases c33 : (wrap64 (t154)) = x11_2
                                    · rw [if_pos c33] at H
                                      have c33b0 : ((wrap64 (t154)) == x11_2) = true := beq_iff_eq.mpr c33
                                      have c33b1 : ((wrap64 (t154)) != x11_2) = false := bne_eq_false_iff_eq.mpr c33
                                      clear c33
                                      obtain ⟨ji34, hji34⟩ : ∃ j_ : Int, (wrap64 (ji26)) = j_ := ⟨_, rfl⟩
                                      replace H : (if 0 ≤ (ji34) then (if (ji34) < (x7_1.length : Int) then (herbariumlaw13_HllAdds.l0 k2 ji8 (x7_1.set ((ji34) : Int).toNat (mx (rd x7_1 (ji34)) x11_2)) l1 (l1.length : Int) (wrap64 (x35_1 + 1)) t143 t144) else (none)) else (none)) = some r := by first | (rw [hji34] at H; exact H) | (simp only [hji34] at H ⊢; exact H)
                                      (try rw [hji34] at c32b0)
                                      (try rw [hji34] at c32b1)
                                      (try rw [hji34] at A31)
                                      have hji34w : (IntKind.i64.wrap (ji26)) = ji34 := (i64_w _).trans hji34
                                      by_cases c35 : 0 ≤ (ji34)
                                      · rw [if_pos c35] at H
                                        have c35b0 : decide (0 ≤ (ji34)) = true := decide_eq_true c35
                                        clear c35
                                        by_cases c36 : (ji34) < (x7_1.length : Int)
                                        · rw [if_pos c36] at H
                                          have c36b0 : decide ((ji34) < (x7_1.length : Int)) = true := decide_eq_true c36
                                          clear c36
                                          obtain ⟨ji37, hji37⟩ : ∃ j_ : Int, (mx (rd x7_1 (ji34)) x11_2) = j_ := ⟨_, rfl⟩
                                          replace H : (herbariumlaw13_HllAdds.l0 k2 ji8 (x7_1.set ((ji34) : Int).toNat (ji37)) l1 (l1.length : Int) (wrap64 (x35_1 + 1)) t143 t144) = some r := by first | (rw [hji37] at H; exact H) | (simp only [hji37] at H ⊢; exact H)
                                          (try rw [hji37] at A31)
                                          have hji37_ : (if (rd x7_1 (ji34)) < x11_2 then x11_2 else (rd x7_1 (ji34))) = ji37 := hji37
                                          obtain ⟨y156, hy156⟩ : ∃ y_ : List Int, y_ = (x7_1.set ((ji34) : Int).toNat (ji37)) := ⟨_, rfl⟩
                                          replace H : (herbariumlaw13_HllAdds.l0 k2 ji8 y156 l1 (l1.length : Int) (wrap64 (x35_1 + 1)) t143 t144) = some r := by first | (rw [hy156]; with_reducible exact H) | (have H2_ := (Option.bind_some _ _).symm.trans H; rw [hy156]; with_reducible exact H2_) | (have H2_ := (Option.bind_some _ _).symm.trans H; with_reducible exact H2_) | with_reducible exact H | (rw [hy156]; exact H) | exact H
                                          have Ny156 := Aside0.mk hy156
                                          clear hy156
                                          have H' := Aside0.mk H
                                          clear H
                                          have hcz39_0 : wr.cell? ⟨gb147, 0, none⟩ = some (.int .i64 t143) := (blk_cell BK147.out 0).trans rfl
                                          have hcz39_1 : wr.cell? ⟨gb147, 1, none⟩ = some (.slice Ao17 t144.length co17) := (blk_cell BK147.out 1).trans rfl
                                          have hfz39_0 := blk_frozen BK147.out 0
                                          have hfz39_1 := blk_frozen BK147.out 1
                                          go_wp2_with (first | ((with_reducible refine gate_callee (f := 22) rfl ?_); refine goesL_ (some 64) rfl rfl Try.func22 (by kernel_rfl) rfl #[.agg #[.int .i64 t143, .slice Ao17 t144.length co17], .int .u64 t152] rfl (by (try simp only [List.map_toArray, List.map_cons, List.map_nil]); first | done | rfl | (simp only [List.length_drop, List.length_take]; rfl)) ?_; (with_reducible refine (hll_Hll_Place.calls t143 _ _ t144 t152 t153 t154 _ ?side1 ?side2 A31.out).mono ?_); (case side1 => repeat (first | exact (Kd.R_reads' HO_148001.out).2.2 | (with_reducible refine Kd.C_alloc ?_ _) | (with_reducible refine Kd.C_drewN ?_ _) | (with_reducible refine Kd.C_drew ?_))); (case side2 => exact (Kd.R_reads' HO_148001.out).2.1); rintro e w40 ⟨rfl, hb⟩; refine ⟨_, rfl, ?_⟩; have n0_ := Aside0.mk (Kd.R_below (by (with_reducible repeat (first | apply Kd.R_alloc | apply Kd.R_drewN | apply Kd.R_drew)); exact HO_7.out) hb); have n1_ := Aside0.mk (Kd.R_below (by (with_reducible repeat (first | apply Kd.R_alloc | apply Kd.R_drewN | apply Kd.R_drew)); exact HO_148001.out) hb); have n2_ := Aside0.mk (blk_below (g := gb147) (o := .cells #[.int .i64 t143, .slice Ao17 t144.length co17] 35 (0, 0)) (by (with_reducible repeat (first | refine blk_drewN ?_ _ | refine blk_drew ?_ | refine blk_alloc ?_ _)); exact BK147.out) hb); have n3_ := Aside0.mk (below_step (by repeat (first | (with_reducible first | exact HB.out | apply below_alloc | apply pw_below_drewN | apply below_drew1 | refine below_set ?_ GE147.out) | exact HB.out)) hb); clear HO_7; clear HO_148001; clear BK147; clear HB; have HO_7 := n0_; have HO_148001 := n1_; have BK147 := n2_; have HB := n3_; clear n0_ n1_ n2_ n3_; (try clear hb); (try clear hb2); (try clear hk); (try clear hi); obtain ⟨Ao41, co41, eo41⟩ := Kd.R_slice HO_7.out; subst eo41; have p155 : 0 ≤ ((ji34) : Int) := of_decide_eq_true (by first | (with_reducible assumption) | assumption); have q155 : (ji34) < (x7_1.length : Int) := of_decide_eq_true (by first | (with_reducible assumption) | assumption); obtain ⟨ad155, e155, hx155_0⟩ := Kd.at_int (Kd.R_reads' HO_7.out).2.2 (ji34) p155 q155; cases e155; replace p155 := eq_true p155; replace q155 := eq_true q155; have p38 : 0 ≤ ((ji34) : Int) := of_decide_eq_true (by first | (with_reducible assumption) | assumption); have q38 : ((ji34) : Int) < ((x7_1.length : Int) : Int) := of_decide_eq_true (by first | (with_reducible assumption) | assumption); obtain ⟨go38, co38, eo38, gb38, gl38, cl38, HG38⟩ := Kd.R_form HO_7.out (by omega); (first | cases eo38 | (injection eo38 with ea_ en_ ec_; (first | subst ea_ | (injection ea_ with ea_; subst ea_)); subst ec_; clear en_)); have GB38 := Aside0.mk gb38; have GG38 := Aside0.mk HG38; clear gb38 gl38 HG38; (first | simp only [add_plain] at hx155_0 | skip); obtain ⟨hx38_0, hf38_0⟩ := Kd.R_celln 0 HO_7.out ((ji34) : Int) p38 q38; replace p38 := eq_true p38; replace q38 := eq_true q38; obtain ⟨hy42_, hz42_⟩ := Kd.R_celln 0 HO_7.out ((ji34) : Int) (of_decide_eq_true (by first | (with_reducible assumption) | assumption)) (of_decide_eq_true (by first | (with_reducible assumption) | assumption)); have HP42 := Kd.R_putg HO_7.out ((ji34) : Int) ji37) | ((with_reducible refine gate_store (t := 3) (p := 84) rfl ?_); refine store_event (t := 3) (p := 84) (v := ?vo_w43) (w1 := (w40.setCell ⟨go38, ((ji34) : Int).toNat, none⟩ (.int .i64 ji37))) ?hg ?ho ?hn ?hr ?_; (case ho => rfl); (case hg => rfl); (case hn => rfl); (case hr => first | (go_simp; done) | (go_simp; rfl)); intro w43 hw; have hg : w40.grownBy w43 (some go38) := (by rw [hw]; exact HP42.2); have hp_ : Kd.R (Kd.int .i64) 3 w43 w.heap.size (fun _ => True) (.slice (some ⟨go38, 0, none⟩) x7_1.length co41) y156 := (by rw [hw, Ny156.out]; exact HP42.1); clear HP42; have n0_ := Aside0.mk (hp_); have n1_ := Aside0.mk (Kd.R_over' (v := (.slice (some ⟨go38, 0, none⟩) x7_1.length co41)) (by (with_reducible repeat (first | apply Kd.R_alloc | apply Kd.R_drewN | apply Kd.R_drew)); exact HO_148001.out) (Kd.R_typed HO_7.out) (by decide) hg); have n2_ := Aside0.mk (blk_grown (g := gb147) (o := .cells #[.int .i64 t143, .slice Ao17 t144.length co17] 35 (0, 0)) (by (with_reducible repeat (first | refine blk_drewN ?_ _ | refine blk_drew ?_ | refine blk_alloc ?_ _)); exact BK147.out) hg (Kd.R_ne HO_7.out BK147.out (by decide))); have n3_ := Aside0.mk ((by rw [hw]; exact below_set (HB.out) GB38.out : Below w.heap.size w w43)); clear HO_7; clear HO_148001; clear BK147; clear HB; have HO_7 := n0_; have HO_148001 := n1_; have BK147 := n2_; have HB := n3_; clear n0_ n1_ n2_ n3_; clear hg hw hp_))
                                          go_roundg k2
                                          case measure => have := HK1.out; have := HK2.out; omega
                                          case rel => exact ⟨(y156), (wrap64 (x35_1 + 1)), (by first | rfl | (simp; done) | (simp [*]; done)), H', ⟨by have := HK1.out; have := HK2.out; omega⟩, ⟨by (with_reducible repeat (first | apply Kd.R_alloc | apply Kd.R_drewN | apply Kd.R_drew)); exact HO_7.out⟩, ⟨by (with_reducible repeat (first | apply Kd.R_alloc | apply Kd.R_drewN | apply Kd.R_drew)); exact HO_148001.out⟩, ⟨by (with_reducible repeat (first | refine blk_drewN ?_ _ | refine blk_drew ?_ | refine blk_alloc ?_ _)); exact BK147.out⟩, ⟨by repeat (first | (with_reducible first | exact HB.out | apply below_alloc | apply pw_below_drewN | apply below_drew1 | refine below_set ?_ GE147.out) | exact HB.out)⟩⟩
                                        · rw [if_neg c36] at H
                                          exact absurd H (by simp)
                                      · rw [if_neg c35] at H
                                        exact absurd H (by simp)
                                    · rw [if_neg c33] at H
                                      have c33b0 : ((wrap64 (t154)) == x11_2) = false := beq_eq_false_iff_ne.mpr c33
                                      have c33b1 : ((wrap64 (t154)) != x11_2) = true := bne_iff_ne.mpr c33
                                      obtain rfl := Option.some.inj H
                                      have hcz44_0 : wr.cell? ⟨gb147, 0, none⟩ = some (.int .i64 t143) := (blk_cell BK147.out 0).trans rfl
                                      have hcz44_1 : wr.cell? ⟨gb147, 1, none⟩ = some (.slice Ao17 t144.length co17) := (blk_cell BK147.out 1).trans rfl
                                      have hfz44_0 := blk_frozen BK147.out 0
                                      have hfz44_1 := blk_frozen BK147.out 1
                                      go_wp2_with (first | ((with_reducible refine gate_callee (f := 22) rfl ?_); refine goesL_ (some 64) rfl rfl Try.func22 (by kernel_rfl) rfl #[.agg #[.int .i64 t143, .slice Ao17 t144.length co17], .int .u64 t152] rfl (by (try simp only [List.map_toArray, List.map_cons, List.map_nil]); first | done | rfl | (simp only [List.length_drop, List.length_take]; rfl)) ?_; (with_reducible refine (hll_Hll_Place.calls t143 _ _ t144 t152 t153 t154 _ ?side1 ?side2 A31.out).mono ?_); (case side1 => repeat (first | exact (Kd.R_reads' HO_148001.out).2.2 | (with_reducible refine Kd.C_alloc ?_ _) | (with_reducible refine Kd.C_drewN ?_ _) | (with_reducible refine Kd.C_drew ?_))); (case side2 => exact (Kd.R_reads' HO_148001.out).2.1); rintro e w45 ⟨rfl, hb⟩; refine ⟨_, rfl, ?_⟩; have n0_ := Aside0.mk (Kd.R_below (by (with_reducible repeat (first | apply Kd.R_alloc | apply Kd.R_drewN | apply Kd.R_drew)); exact HO_7.out) hb); have n1_ := Aside0.mk (Kd.R_below (by (with_reducible repeat (first | apply Kd.R_alloc | apply Kd.R_drewN | apply Kd.R_drew)); exact HO_148001.out) hb); have n2_ := Aside0.mk (blk_below (g := gb147) (o := .cells #[.int .i64 t143, .slice Ao17 t144.length co17] 35 (0, 0)) (by (with_reducible repeat (first | refine blk_drewN ?_ _ | refine blk_drew ?_ | refine blk_alloc ?_ _)); exact BK147.out) hb); have n3_ := Aside0.mk (below_step (by repeat (first | (with_reducible first | exact HB.out | apply below_alloc | apply pw_below_drewN | apply below_drew1 | refine below_set ?_ GE147.out) | exact HB.out)) hb); clear HO_7; clear HO_148001; clear BK147; clear HB; have HO_7 := n0_; have HO_148001 := n1_; have BK147 := n2_; have HB := n3_; clear n0_ n1_ n2_ n3_; (try clear hb); (try clear hb2); (try clear hk); (try clear hi)))
                                      go_ret
                                      exact ⟨by first | rfl | (simp [errW_none, errW_some] <;> rfl) | (simp only [← hji8, ← hji10, ← hji24, ← hji26, ← hji29]; first | rfl | (simp [errW_none, errW_some] <;> rfl)) | (simp [*, errW_none, errW_some] <;> rfl), by repeat (first | (with_reducible first | exact HB.out | apply below_alloc | apply pw_below_drewN | apply below_drew1 | refine below_set ?_ GE147.out) | exact HB.out)⟩
                                  · rw [if_neg c32] at H
                                    have c32b0 : (t153 == (wrap64 (ji26))) = false := beq_eq_false_iff_ne.mpr c32
                                    have c32b1 : (t153 != (wrap64 (ji26))) = true := bne_iff_ne.mpr c32
                                    obtain rfl := Option.some.inj H
                                    have hcz46_0 : wr.cell? ⟨gb147, 0, none⟩ = some (.int .i64 t143) := (blk_cell BK147.out 0).trans rfl
                                    have hcz46_1 : wr.cell? ⟨gb147, 1, none⟩ = some (.slice Ao17 t144.length co17) := (blk_cell BK147.out 1).trans rfl
                                    have hfz46_0 := blk_frozen BK147.out 0
                                    have hfz46_1 := blk_frozen BK147.out 1
                                    go_wp2_with (first | ((with_reducible refine gate_callee (f := 22) rfl ?_); refine goesL_ (some 64) rfl rfl Try.func22 (by kernel_rfl) rfl #[.agg #[.int .i64 t143, .slice Ao17 t144.length co17], .int .u64 t152] rfl (by (try simp only [List.map_toArray, List.map_cons, List.map_nil]); first | done | rfl | (simp only [List.length_drop, List.length_take]; rfl)) ?_; (with_reducible refine (hll_Hll_Place.calls t143 _ _ t144 t152 t153 t154 _ ?side1 ?side2 A31.out).mono ?_); (case side1 => repeat (first | exact (Kd.R_reads' HO_148001.out).2.2 | (with_reducible refine Kd.C_alloc ?_ _) | (with_reducible refine Kd.C_drewN ?_ _) | (with_reducible refine Kd.C_drew ?_))); (case side2 => exact (Kd.R_reads' HO_148001.out).2.1); rintro e w47 ⟨rfl, hb⟩; refine ⟨_, rfl, ?_⟩; have n0_ := Aside0.mk (Kd.R_below (by (with_reducible repeat (first | apply Kd.R_alloc | apply Kd.R_drewN | apply Kd.R_drew)); exact HO_7.out) hb); have n1_ := Aside0.mk (Kd.R_below (by (with_reducible repeat (first | apply Kd.R_alloc | apply Kd.R_drewN | apply Kd.R_drew)); exact HO_148001.out) hb); have n2_ := Aside0.mk (blk_below (g := gb147) (o := .cells #[.int .i64 t143, .slice Ao17 t144.length co17] 35 (0, 0)) (by (with_reducible repeat (first | refine blk_drewN ?_ _ | refine blk_drew ?_ | refine blk_alloc ?_ _)); exact BK147.out) hb); have n3_ := Aside0.mk (below_step (by repeat (first | (with_reducible first | exact HB.out | apply below_alloc | apply pw_below_drewN | apply below_drew1 | refine below_set ?_ GE147.out) | exact HB.out)) hb); clear HO_7; clear HO_148001; clear BK147; clear HB; have HO_7 := n0_; have HO_148001 := n1_; have BK147 := n2_; have HB := n3_; clear n0_ n1_ n2_ n3_; (try clear hb); (try clear hb2); (try clear hk); (try clear hi)))
                                    go_ret
                                    exact ⟨by first | rfl | (simp [errW_none, errW_some] <;> rfl) | (simp only [← hji8, ← hji10, ← hji24, ← hji26, ← hji29]; first | rfl | (simp [errW_none, errW_some] <;> rfl)) | (simp [*, errW_none, errW_some] <;> rfl), by repeat (first | (with_reducible first | exact HB.out | apply below_alloc | apply pw_below_drewN | apply below_drew1 | refine below_set ?_ GE147.out) | exact HB.out)⟩
                              · rw [if_neg c28] at H
                                exact absurd H (by simp)
                            · rw [if_neg c27] at H
                              have c27b0 : decide (0 ≤ x12_2) = false := decide_eq_false c27
                              clear c27
                              replace H := Option.bind_eq_some_iff.mp H
                              obtain ⟨⟨t157, t158⟩, A480, H⟩ := H
                              replace H : (if t157 = (wrap64 (ji26)) then (if (wrap64 (t158)) = x11_2 then (if 0 ≤ (wrap64 (ji26)) then (if (wrap64 (ji26)) < (x7_1.length : Int) then (herbariumlaw13_HllAdds.l0 k2 ji8 (x7_1.set ((wrap64 (ji26)) : Int).toNat (mx (rd x7_1 (wrap64 (ji26))) x11_2)) l1 (l1.length : Int) (wrap64 (x35_1 + 1)) t143 t144) else (none)) else (none)) else (some false)) else (some false)) = some r := H
                              have A48 := Aside0.mk A480
                              clear A480
                              by_cases c49 : t157 = (wrap64 (ji26))
                              · rw [if_pos c49] at H
                                have c49b0 : (t157 == (wrap64 (ji26))) = true := beq_iff_eq.mpr c49
                                have c49b1 : (t157 != (wrap64 (ji26))) = false := bne_eq_false_iff_eq.mpr c49
                                clear c49
                                by_cases c50 : (wrap64 (t158)) = x11_2
                                · rw [if_pos c50] at H
                                  have c50b0 : ((wrap64 (t158)) == x11_2) = true := beq_iff_eq.mpr c50
                                  have c50b1 : ((wrap64 (t158)) != x11_2) = false := bne_eq_false_iff_eq.mpr c50
                                  clear c50
                                  obtain ⟨ji51, hji51⟩ : ∃ j_ : Int, (wrap64 (ji26)) = j_ := ⟨_, rfl⟩
                                  replace H : (if 0 ≤ (ji51) then (if (ji51) < (x7_1.length : Int) then (herbariumlaw13_HllAdds.l0 k2 ji8 (x7_1.set ((ji51) : Int).toNat (mx (rd x7_1 (ji51)) x11_2)) l1 (l1.length : Int) (wrap64 (x35_1 + 1)) t143 t144) else (none)) else (none)) = some r := by first | (rw [hji51] at H; exact H) | (simp only [hji51] at H ⊢; exact H)
                                  (try rw [hji51] at c49b0)
                                  (try rw [hji51] at c49b1)
                                  (try rw [hji51] at A48)
                                  have hji51w : (IntKind.i64.wrap (ji26)) = ji51 := (i64_w _).trans hji51
                                  by_cases c52 : 0 ≤ (ji51)
                                  · rw [if_pos c52] at H
                                    have c52b0 : decide (0 ≤ (ji51)) = true := decide_eq_true c52
                                    clear c52
                                    by_cases c53 : (ji51) < (x7_1.length : Int)
                                    · rw [if_pos c53] at H
                                      have c53b0 : decide ((ji51) < (x7_1.length : Int)) = true := decide_eq_true c53
                                      clear c53
                                      obtain ⟨ji54, hji54⟩ : ∃ j_ : Int, (mx (rd x7_1 (ji51)) x11_2) = j_ := ⟨_, rfl⟩
                                      replace H : (herbariumlaw13_HllAdds.l0 k2 ji8 (x7_1.set ((ji51) : Int).toNat (ji54)) l1 (l1.length : Int) (wrap64 (x35_1 + 1)) t143 t144) = some r := by first | (rw [hji54] at H; exact H) | (simp only [hji54] at H ⊢; exact H)
                                      (try rw [hji54] at A48)
                                      have hji54_ : (if (rd x7_1 (ji51)) < x11_2 then x11_2 else (rd x7_1 (ji51))) = ji54 := hji54
                                      obtain ⟨y160, hy160⟩ : ∃ y_ : List Int, y_ = (x7_1.set ((ji51) : Int).toNat (ji54)) := ⟨_, rfl⟩
                                      replace H : (herbariumlaw13_HllAdds.l0 k2 ji8 y160 l1 (l1.length : Int) (wrap64 (x35_1 + 1)) t143 t144) = some r := by first | (rw [hy160]; with_reducible exact H) | (have H2_ := (Option.bind_some _ _).symm.trans H; rw [hy160]; with_reducible exact H2_) | (have H2_ := (Option.bind_some _ _).symm.trans H; with_reducible exact H2_) | with_reducible exact H | (rw [hy160]; exact H) | exact H
                                      have Ny160 := Aside0.mk hy160
                                      clear hy160
                                      have H' := Aside0.mk H
                                      clear H
                                      have hcz56_0 : wr.cell? ⟨gb147, 0, none⟩ = some (.int .i64 t143) := (blk_cell BK147.out 0).trans rfl
                                      have hcz56_1 : wr.cell? ⟨gb147, 1, none⟩ = some (.slice Ao17 t144.length co17) := (blk_cell BK147.out 1).trans rfl
                                      have hfz56_0 := blk_frozen BK147.out 0
                                      have hfz56_1 := blk_frozen BK147.out 1
                                      go_wp2_with (first | ((with_reducible refine gate_callee (f := 22) rfl ?_); refine goesL_ (some 64) rfl rfl Try.func22 (by kernel_rfl) rfl #[.agg #[.int .i64 t143, .slice Ao17 t144.length co17], .int .u64 t152] rfl (by (try simp only [List.map_toArray, List.map_cons, List.map_nil]); first | done | rfl | (simp only [List.length_drop, List.length_take]; rfl)) ?_; (with_reducible refine (hll_Hll_Place.calls t143 _ _ t144 t152 t157 t158 _ ?side1 ?side2 A48.out).mono ?_); (case side1 => repeat (first | exact (Kd.R_reads' HO_148001.out).2.2 | (with_reducible refine Kd.C_alloc ?_ _) | (with_reducible refine Kd.C_drewN ?_ _) | (with_reducible refine Kd.C_drew ?_))); (case side2 => exact (Kd.R_reads' HO_148001.out).2.1); rintro e w57 ⟨rfl, hb⟩; refine ⟨_, rfl, ?_⟩; have n0_ := Aside0.mk (Kd.R_below (by (with_reducible repeat (first | apply Kd.R_alloc | apply Kd.R_drewN | apply Kd.R_drew)); exact HO_7.out) hb); have n1_ := Aside0.mk (Kd.R_below (by (with_reducible repeat (first | apply Kd.R_alloc | apply Kd.R_drewN | apply Kd.R_drew)); exact HO_148001.out) hb); have n2_ := Aside0.mk (blk_below (g := gb147) (o := .cells #[.int .i64 t143, .slice Ao17 t144.length co17] 35 (0, 0)) (by (with_reducible repeat (first | refine blk_drewN ?_ _ | refine blk_drew ?_ | refine blk_alloc ?_ _)); exact BK147.out) hb); have n3_ := Aside0.mk (below_step (by repeat (first | (with_reducible first | exact HB.out | apply below_alloc | apply pw_below_drewN | apply below_drew1 | refine below_set ?_ GE147.out) | exact HB.out)) hb); clear HO_7; clear HO_148001; clear BK147; clear HB; have HO_7 := n0_; have HO_148001 := n1_; have BK147 := n2_; have HB := n3_; clear n0_ n1_ n2_ n3_; (try clear hb); (try clear hb2); (try clear hk); (try clear hi); obtain ⟨Ao58, co58, eo58⟩ := Kd.R_slice HO_7.out; subst eo58; have p159 : 0 ≤ ((ji51) : Int) := of_decide_eq_true (by first | (with_reducible assumption) | assumption); have q159 : (ji51) < (x7_1.length : Int) := of_decide_eq_true (by first | (with_reducible assumption) | assumption); obtain ⟨ad159, e159, hx159_0⟩ := Kd.at_int (Kd.R_reads' HO_7.out).2.2 (ji51) p159 q159; cases e159; replace p159 := eq_true p159; replace q159 := eq_true q159; have p55 : 0 ≤ ((ji51) : Int) := of_decide_eq_true (by first | (with_reducible assumption) | assumption); have q55 : ((ji51) : Int) < ((x7_1.length : Int) : Int) := of_decide_eq_true (by first | (with_reducible assumption) | assumption); obtain ⟨go55, co55, eo55, gb55, gl55, cl55, HG55⟩ := Kd.R_form HO_7.out (by omega); (first | cases eo55 | (injection eo55 with ea_ en_ ec_; (first | subst ea_ | (injection ea_ with ea_; subst ea_)); subst ec_; clear en_)); have GB55 := Aside0.mk gb55; have GG55 := Aside0.mk HG55; clear gb55 gl55 HG55; (first | simp only [add_plain] at hx159_0 | skip); obtain ⟨hx55_0, hf55_0⟩ := Kd.R_celln 0 HO_7.out ((ji51) : Int) p55 q55; replace p55 := eq_true p55; replace q55 := eq_true q55; obtain ⟨hy59_, hz59_⟩ := Kd.R_celln 0 HO_7.out ((ji51) : Int) (of_decide_eq_true (by first | (with_reducible assumption) | assumption)) (of_decide_eq_true (by first | (with_reducible assumption) | assumption)); have HP59 := Kd.R_putg HO_7.out ((ji51) : Int) ji54) | ((with_reducible refine gate_store (t := 3) (p := 84) rfl ?_); refine store_event (t := 3) (p := 84) (v := ?vo_w60) (w1 := (w57.setCell ⟨go55, ((ji51) : Int).toNat, none⟩ (.int .i64 ji54))) ?hg ?ho ?hn ?hr ?_; (case ho => rfl); (case hg => rfl); (case hn => rfl); (case hr => first | (go_simp; done) | (go_simp; rfl)); intro w60 hw; have hg : w57.grownBy w60 (some go55) := (by rw [hw]; exact HP59.2); have hp_ : Kd.R (Kd.int .i64) 3 w60 w.heap.size (fun _ => True) (.slice (some ⟨go55, 0, none⟩) x7_1.length co58) y160 := (by rw [hw, Ny160.out]; exact HP59.1); clear HP59; have n0_ := Aside0.mk (hp_); have n1_ := Aside0.mk (Kd.R_over' (v := (.slice (some ⟨go55, 0, none⟩) x7_1.length co58)) (by (with_reducible repeat (first | apply Kd.R_alloc | apply Kd.R_drewN | apply Kd.R_drew)); exact HO_148001.out) (Kd.R_typed HO_7.out) (by decide) hg); have n2_ := Aside0.mk (blk_grown (g := gb147) (o := .cells #[.int .i64 t143, .slice Ao17 t144.length co17] 35 (0, 0)) (by (with_reducible repeat (first | refine blk_drewN ?_ _ | refine blk_drew ?_ | refine blk_alloc ?_ _)); exact BK147.out) hg (Kd.R_ne HO_7.out BK147.out (by decide))); have n3_ := Aside0.mk ((by rw [hw]; exact below_set (HB.out) GB55.out : Below w.heap.size w w60)); clear HO_7; clear HO_148001; clear BK147; clear HB; have HO_7 := n0_; have HO_148001 := n1_; have BK147 := n2_; have HB := n3_; clear n0_ n1_ n2_ n3_; clear hg hw hp_))
                                      go_roundg k2
                                      case measure => have := HK1.out; have := HK2.out; omega
                                      case rel => exact ⟨(y160), (wrap64 (x35_1 + 1)), (by first | rfl | (simp; done) | (simp [*]; done)), H', ⟨by have := HK1.out; have := HK2.out; omega⟩, ⟨by (with_reducible repeat (first | apply Kd.R_alloc | apply Kd.R_drewN | apply Kd.R_drew)); exact HO_7.out⟩, ⟨by (with_reducible repeat (first | apply Kd.R_alloc | apply Kd.R_drewN | apply Kd.R_drew)); exact HO_148001.out⟩, ⟨by (with_reducible repeat (first | refine blk_drewN ?_ _ | refine blk_drew ?_ | refine blk_alloc ?_ _)); exact BK147.out⟩, ⟨by repeat (first | (with_reducible first | exact HB.out | apply below_alloc | apply pw_below_drewN | apply below_drew1 | refine below_set ?_ GE147.out) | exact HB.out)⟩⟩
                                    · rw [if_neg c53] at H
                                      exact absurd H (by simp)
                                  · rw [if_neg c52] at H
                                    exact absurd H (by simp)
                                · rw [if_neg c50] at H
                                  have c50b0 : ((wrap64 (t158)) == x11_2) = false := beq_eq_false_iff_ne.mpr c50
                                  have c50b1 : ((wrap64 (t158)) != x11_2) = true := bne_iff_ne.mpr c50
                                  obtain rfl := Option.some.inj H
                                  have hcz61_0 : wr.cell? ⟨gb147, 0, none⟩ = some (.int .i64 t143) := (blk_cell BK147.out 0).trans rfl
                                  have hcz61_1 : wr.cell? ⟨gb147, 1, none⟩ = some (.slice Ao17 t144.length co17) := (blk_cell BK147.out 1).trans rfl
                                  have hfz61_0 := blk_frozen BK147.out 0
                                  have hfz61_1 := blk_frozen BK147.out 1
                                  go_wp2_with (first | ((with_reducible refine gate_callee (f := 22) rfl ?_); refine goesL_ (some 64) rfl rfl Try.func22 (by kernel_rfl) rfl #[.agg #[.int .i64 t143, .slice Ao17 t144.length co17], .int .u64 t152] rfl (by (try simp only [List.map_toArray, List.map_cons, List.map_nil]); first | done | rfl | (simp only [List.length_drop, List.length_take]; rfl)) ?_; (with_reducible refine (hll_Hll_Place.calls t143 _ _ t144 t152 t157 t158 _ ?side1 ?side2 A48.out).mono ?_); (case side1 => repeat (first | exact (Kd.R_reads' HO_148001.out).2.2 | (with_reducible refine Kd.C_alloc ?_ _) | (with_reducible refine Kd.C_drewN ?_ _) | (with_reducible refine Kd.C_drew ?_))); (case side2 => exact (Kd.R_reads' HO_148001.out).2.1); rintro e w62 ⟨rfl, hb⟩; refine ⟨_, rfl, ?_⟩; have n0_ := Aside0.mk (Kd.R_below (by (with_reducible repeat (first | apply Kd.R_alloc | apply Kd.R_drewN | apply Kd.R_drew)); exact HO_7.out) hb); have n1_ := Aside0.mk (Kd.R_below (by (with_reducible repeat (first | apply Kd.R_alloc | apply Kd.R_drewN | apply Kd.R_drew)); exact HO_148001.out) hb); have n2_ := Aside0.mk (blk_below (g := gb147) (o := .cells #[.int .i64 t143, .slice Ao17 t144.length co17] 35 (0, 0)) (by (with_reducible repeat (first | refine blk_drewN ?_ _ | refine blk_drew ?_ | refine blk_alloc ?_ _)); exact BK147.out) hb); have n3_ := Aside0.mk (below_step (by repeat (first | (with_reducible first | exact HB.out | apply below_alloc | apply pw_below_drewN | apply below_drew1 | refine below_set ?_ GE147.out) | exact HB.out)) hb); clear HO_7; clear HO_148001; clear BK147; clear HB; have HO_7 := n0_; have HO_148001 := n1_; have BK147 := n2_; have HB := n3_; clear n0_ n1_ n2_ n3_; (try clear hb); (try clear hb2); (try clear hk); (try clear hi)))
                                  go_ret
                                  exact ⟨by first | rfl | (simp [errW_none, errW_some] <;> rfl) | (simp only [← hji8, ← hji10, ← hji24, ← hji26]; first | rfl | (simp [errW_none, errW_some] <;> rfl)) | (simp [*, errW_none, errW_some] <;> rfl), by repeat (first | (with_reducible first | exact HB.out | apply below_alloc | apply pw_below_drewN | apply below_drew1 | refine below_set ?_ GE147.out) | exact HB.out)⟩
                              · rw [if_neg c49] at H
                                have c49b0 : (t157 == (wrap64 (ji26))) = false := beq_eq_false_iff_ne.mpr c49
                                have c49b1 : (t157 != (wrap64 (ji26))) = true := bne_iff_ne.mpr c49
                                obtain rfl := Option.some.inj H
                                have hcz63_0 : wr.cell? ⟨gb147, 0, none⟩ = some (.int .i64 t143) := (blk_cell BK147.out 0).trans rfl
                                have hcz63_1 : wr.cell? ⟨gb147, 1, none⟩ = some (.slice Ao17 t144.length co17) := (blk_cell BK147.out 1).trans rfl
                                have hfz63_0 := blk_frozen BK147.out 0
                                have hfz63_1 := blk_frozen BK147.out 1
                                go_wp2_with (first | ((with_reducible refine gate_callee (f := 22) rfl ?_); refine goesL_ (some 64) rfl rfl Try.func22 (by kernel_rfl) rfl #[.agg #[.int .i64 t143, .slice Ao17 t144.length co17], .int .u64 t152] rfl (by (try simp only [List.map_toArray, List.map_cons, List.map_nil]); first | done | rfl | (simp only [List.length_drop, List.length_take]; rfl)) ?_; (with_reducible refine (hll_Hll_Place.calls t143 _ _ t144 t152 t157 t158 _ ?side1 ?side2 A48.out).mono ?_); (case side1 => repeat (first | exact (Kd.R_reads' HO_148001.out).2.2 | (with_reducible refine Kd.C_alloc ?_ _) | (with_reducible refine Kd.C_drewN ?_ _) | (with_reducible refine Kd.C_drew ?_))); (case side2 => exact (Kd.R_reads' HO_148001.out).2.1); rintro e w64 ⟨rfl, hb⟩; refine ⟨_, rfl, ?_⟩; have n0_ := Aside0.mk (Kd.R_below (by (with_reducible repeat (first | apply Kd.R_alloc | apply Kd.R_drewN | apply Kd.R_drew)); exact HO_7.out) hb); have n1_ := Aside0.mk (Kd.R_below (by (with_reducible repeat (first | apply Kd.R_alloc | apply Kd.R_drewN | apply Kd.R_drew)); exact HO_148001.out) hb); have n2_ := Aside0.mk (blk_below (g := gb147) (o := .cells #[.int .i64 t143, .slice Ao17 t144.length co17] 35 (0, 0)) (by (with_reducible repeat (first | refine blk_drewN ?_ _ | refine blk_drew ?_ | refine blk_alloc ?_ _)); exact BK147.out) hb); have n3_ := Aside0.mk (below_step (by repeat (first | (with_reducible first | exact HB.out | apply below_alloc | apply pw_below_drewN | apply below_drew1 | refine below_set ?_ GE147.out) | exact HB.out)) hb); clear HO_7; clear HO_148001; clear BK147; clear HB; have HO_7 := n0_; have HO_148001 := n1_; have BK147 := n2_; have HB := n3_; clear n0_ n1_ n2_ n3_; (try clear hb); (try clear hb2); (try clear hk); (try clear hi)))
                                go_ret
                                exact ⟨by first | rfl | (simp [errW_none, errW_some] <;> rfl) | (simp only [← hji8, ← hji10, ← hji24, ← hji26]; first | rfl | (simp [errW_none, errW_some] <;> rfl)) | (simp [*, errW_none, errW_some] <;> rfl), by repeat (first | (with_reducible first | exact HB.out | apply below_alloc | apply pw_below_drewN | apply below_drew1 | refine below_set ?_ GE147.out) | exact HB.out)⟩
                      · rw [if_neg c25] at H
                        exact absurd H (by simp)
                    · rw [if_neg c22] at H
                      exact absurd H (by simp)
                  · rw [if_neg c21] at H
                    exact absurd H (by simp)
                · rw [if_neg c20] at H
                  have c20b0 : decide (x35_1 < (l1.length : Int)) = false := decide_eq_false c20
                  clear c20
                  have H' := Aside0.mk H
                  clear H
                  obtain ⟨Ao65, co65, eo65⟩ := Kd.R_slice HO_7.out
                  subst eo65
                  go_wp2
                  go_loopg [15, 88] k1 (fun kq v15 v88 w' => ∃ (x15_2 : Int) (x88_2 : Int), v15 = .int .i64 x15_2 ∧ v88 = .int .i64 x88_2 ∧ Aside0 (herbariumlaw13_HllAdds.l2 kq ji8 x15_2 x7_1 (x7_1.length : Int) x88_2 t143 t144 = some r) ∧ Aside0 (kq ≤ k1) ∧ Aside0 (Kd.R (Kd.int .i64) 3 w' w.heap.size (fun _ => True) (.slice Ao65 x7_1.length co65) x7_1) ∧ Aside0 (Kd.R (Kd.int .u8) 5 w' w.heap.size (fun _ => True) (.slice Ao17 t144.length co17) t144) ∧ Aside0 (w'.heap[gb147]? = some (.cells #[.int .i64 t143, (.slice Ao17 t144.length co17)] 35 (0, 0))) ∧ Aside0 (Below w.heap.size w w'))
                  case atStart => exact ⟨(0), (0), (by first | rfl | (simp; done) | (simp [*]; done)), (by first | rfl | (simp; done) | (simp [*]; done)), H', ⟨Nat.le_refl _⟩, ⟨by (with_reducible repeat (first | apply Kd.R_alloc | apply Kd.R_drewN | apply Kd.R_drew)); exact HO_7.out⟩, ⟨by (with_reducible repeat (first | apply Kd.R_alloc | apply Kd.R_drewN | apply Kd.R_drew)); exact HO_148001.out⟩, ⟨by (with_reducible repeat (first | refine blk_drewN ?_ _ | refine blk_drew ?_ | refine blk_alloc ?_ _)); exact BK147.out⟩, ⟨by repeat (first | (with_reducible first | exact HB.out | apply below_alloc | apply pw_below_drewN | apply below_drew1 | refine below_set ?_ GE147.out) | exact HB.out)⟩⟩
                  case round =>
                    clear H'
                    try clear c1
                    try clear p1
                    try clear q1
                    try clear hx1
                    try clear c2
                    try clear p2
                    try clear c3
                    try clear p3
                    try clear q3
                    try clear hx3
                    try clear hf3
                    try clear c4
                    try clear c5
                    try clear c5b0
                    try clear c5b1
                    try clear p5
                    try clear q5
                    try clear hx5
                    try clear hf5
                    try clear p6
                    try clear c9
                    try clear c9b0
                    try clear c9b1
                    try clear c11
                    try clear c11b0
                    try clear c11b1
                    try clear c12
                    try clear c12b0
                    try clear c12b1
                    try clear p15
                    try clear q15
                    try clear hx15
                    try clear c17
                    try clear c20
                    try clear c20b0
                    try clear c21
                    try clear c21b0
                    try clear c22
                    try clear c22b0
                    try clear c25
                    try clear c25b0
                    try clear c25b1
                    try clear c27
                    try clear c27b0
                    try clear c28
                    try clear c28b0
                    try clear c28b1
                    try clear c30
                    try clear c30b0
                    try clear c30b1
                    try clear c32
                    try clear c32b0
                    try clear c32b1
                    try clear c33
                    try clear c33b0
                    try clear c33b1
                    try clear c34
                    try clear c35
                    try clear c35b0
                    try clear c36
                    try clear c36b0
                    try clear p38
                    try clear q38
                    try clear hx38
                    try clear hf38
                    try clear c49
                    try clear c49b0
                    try clear c49b1
                    try clear c50
                    try clear c50b0
                    try clear c50b1
                    try clear c52
                    try clear c52b0
                    try clear c53
                    try clear c53b0
                    try clear p55
                    try clear q55
                    try clear hx55
                    try clear hf55
                    try clear p64
                    try clear hcz16_0
                    try clear hcz16_1
                    try clear hcz39_0
                    try clear hcz39_1
                    try clear hcz44_0
                    try clear hcz44_1
                    try clear hcz46_0
                    try clear hcz46_1
                    try clear hcz56_0
                    try clear hcz56_1
                    try clear hcz61_0
                    try clear hcz61_1
                    try clear hcz63_0
                    try clear hcz63_1
                    try clear hfz16_0
                    try clear hfz16_1
                    try clear hfz39_0
                    try clear hfz39_1
                    try clear hfz44_0
                    try clear hfz44_1
                    try clear hfz46_0
                    try clear hfz46_1
                    try clear hfz56_0
                    try clear hfz56_1
                    try clear hfz61_0
                    try clear hfz61_1
                    try clear hfz63_0
                    try clear hfz63_1
                    try clear hx151_0
                    try clear hx155_0
                    try clear hx159_0
                    try clear hx38_0
                    try clear hx55_0
                    try clear p1
                    try clear p15
                    try clear p151
                    try clear p155
                    try clear p159
                    try clear p2
                    try clear p38
                    try clear p55
                    try clear p6
                    try clear q1
                    try clear q15
                    try clear q151
                    try clear q155
                    try clear q159
                    try clear q38
                    try clear q55
                    obtain ⟨x15_2, x88_2, rfl, rfl, HA, HK2, HO_86, HO_148001, BK147, HB⟩ := hrel
                    cases gk with
                    | zero => exact absurd HA.out (by simp [herbariumlaw13_HllAdds.l2])
                    | succ k2 =>
                      have H := HA.out
                      clear HA
                      simp only [herbariumlaw13_HllAdds.l2] at H
                      by_cases c66 : x88_2 < (x7_1.length : Int)
                      · rw [if_pos c66] at H
                        have c66b0 : decide (x88_2 < (x7_1.length : Int)) = true := decide_eq_true c66
                        clear c66
                        by_cases c67 : 0 ≤ x88_2
                        · rw [if_pos c67] at H
                          have c67b0 : decide (0 ≤ x88_2) = true := decide_eq_true c67
                          clear c67
                          by_cases c68 : x88_2 < (x7_1.length : Int)
                          · rw [if_pos c68] at H
                            have c68b0 : decide (x88_2 < (x7_1.length : Int)) = true := decide_eq_true c68
                            clear c68
                            by_cases c69 : x88_2 < (t144.length : Int)
                            · rw [if_pos c69] at H
                              have c69b0 : decide (x88_2 < (t144.length : Int)) = true := decide_eq_true c69
                              clear c69
                              by_cases c70 : (wrap64 (rd t144 x88_2)) = (rd x7_1 x88_2)
                              · rw [if_pos c70] at H
                                have c70b0 : ((wrap64 (rd t144 x88_2)) == (rd x7_1 x88_2)) = true := beq_iff_eq.mpr c70
                                have c70b1 : ((wrap64 (rd t144 x88_2)) != (rd x7_1 x88_2)) = false := bne_eq_false_iff_eq.mpr c70
                                clear c70
                                by_cases c71 : (rd x7_1 x88_2) = 0
                                · rw [if_pos c71] at H
                                  have c71b0 : ((rd x7_1 x88_2) == 0) = true := beq_iff_eq.mpr c71
                                  have c71b1 : ((rd x7_1 x88_2) != 0) = false := bne_eq_false_iff_eq.mpr c71
                                  clear c71
                                  have H' := Aside0.mk H
                                  clear H
                                  have p164 : 0 ≤ (x88_2 : Int) := of_decide_eq_true (by first | (with_reducible assumption) | assumption)
                                  have q164 : x88_2 < (x7_1.length : Int) := of_decide_eq_true (by first | (with_reducible assumption) | assumption)
                                  obtain ⟨ad164, e164, hx164_0⟩ := Kd.at_int (Kd.R_reads' HO_86.out).2.2 x88_2 p164 q164
                                  cases e164
                                  replace p164 := eq_true p164
                                  replace q164 := eq_true q164
                                  have hcz72_0 : wr.cell? ⟨gb147, 0, none⟩ = some (.int .i64 t143) := (blk_cell BK147.out 0).trans rfl
                                  have hcz72_1 : wr.cell? ⟨gb147, 1, none⟩ = some (.slice Ao17 t144.length co17) := (blk_cell BK147.out 1).trans rfl
                                  have hfz72_0 := blk_frozen BK147.out 0
                                  have hfz72_1 := blk_frozen BK147.out 1
                                  have p165 : 0 ≤ (x88_2 : Int) := of_decide_eq_true (by first | (with_reducible assumption) | assumption)
                                  have q165 : x88_2 < (t144.length : Int) := of_decide_eq_true (by first | (with_reducible assumption) | assumption)
                                  obtain ⟨ad165, e165, hx165_0⟩ := Kd.at_int (Kd.R_reads' HO_148001.out).2.2 x88_2 p165 q165
                                  cases e165
                                  replace p165 := eq_true p165
                                  replace q165 := eq_true q165
                                  go_wp2
                                  go_roundg k2
                                  case measure => have := HK1.out; have := HK2.out; omega
                                  case rel => exact ⟨(wrap64 (x15_2 + 1)), (wrap64 (x88_2 + 1)), (by first | rfl | (simp; done) | (simp [*]; done)), (by first | rfl | (simp; done) | (simp [*]; done)), H', ⟨by have := HK1.out; have := HK2.out; omega⟩, ⟨by (with_reducible repeat (first | apply Kd.R_alloc | apply Kd.R_drewN | apply Kd.R_drew)); exact HO_86.out⟩, ⟨by (with_reducible repeat (first | apply Kd.R_alloc | apply Kd.R_drewN | apply Kd.R_drew)); exact HO_148001.out⟩, ⟨by (with_reducible repeat (first | refine blk_drewN ?_ _ | refine blk_drew ?_ | refine blk_alloc ?_ _)); exact BK147.out⟩, ⟨by repeat (first | (with_reducible first | exact HB.out | apply below_alloc | apply pw_below_drewN | apply below_drew1 | refine below_set ?_ GE147.out) | exact HB.out)⟩⟩
                                · rw [if_neg c71] at H
                                  have c71b0 : ((rd x7_1 x88_2) == 0) = false := beq_eq_false_iff_ne.mpr c71
                                  have c71b1 : ((rd x7_1 x88_2) != 0) = true := bne_iff_ne.mpr c71
                                  have H' := Aside0.mk H
                                  clear H
                                  have p164 : 0 ≤ (x88_2 : Int) := of_decide_eq_true (by first | (with_reducible assumption) | assumption)
                                  have q164 : x88_2 < (x7_1.length : Int) := of_decide_eq_true (by first | (with_reducible assumption) | assumption)
                                  obtain ⟨ad164, e164, hx164_0⟩ := Kd.at_int (Kd.R_reads' HO_86.out).2.2 x88_2 p164 q164
                                  cases e164
                                  replace p164 := eq_true p164
                                  replace q164 := eq_true q164
                                  have hcz73_0 : wr.cell? ⟨gb147, 0, none⟩ = some (.int .i64 t143) := (blk_cell BK147.out 0).trans rfl
                                  have hcz73_1 : wr.cell? ⟨gb147, 1, none⟩ = some (.slice Ao17 t144.length co17) := (blk_cell BK147.out 1).trans rfl
                                  have hfz73_0 := blk_frozen BK147.out 0
                                  have hfz73_1 := blk_frozen BK147.out 1
                                  have p165 : 0 ≤ (x88_2 : Int) := of_decide_eq_true (by first | (with_reducible assumption) | assumption)
                                  have q165 : x88_2 < (t144.length : Int) := of_decide_eq_true (by first | (with_reducible assumption) | assumption)
                                  obtain ⟨ad165, e165, hx165_0⟩ := Kd.at_int (Kd.R_reads' HO_148001.out).2.2 x88_2 p165 q165
                                  cases e165
                                  replace p165 := eq_true p165
                                  replace q165 := eq_true q165
                                  go_wp2
                                  go_roundg k2
                                  case measure => have := HK1.out; have := HK2.out; omega
                                  case rel => exact ⟨(x15_2), (wrap64 (x88_2 + 1)), (by first | rfl | (simp; done) | (simp [*]; done)), (by first | rfl | (simp; done) | (simp [*]; done)), H', ⟨by have := HK1.out; have := HK2.out; omega⟩, ⟨by (with_reducible repeat (first | apply Kd.R_alloc | apply Kd.R_drewN | apply Kd.R_drew)); exact HO_86.out⟩, ⟨by (with_reducible repeat (first | apply Kd.R_alloc | apply Kd.R_drewN | apply Kd.R_drew)); exact HO_148001.out⟩, ⟨by (with_reducible repeat (first | refine blk_drewN ?_ _ | refine blk_drew ?_ | refine blk_alloc ?_ _)); exact BK147.out⟩, ⟨by repeat (first | (with_reducible first | exact HB.out | apply below_alloc | apply pw_below_drewN | apply below_drew1 | refine below_set ?_ GE147.out) | exact HB.out)⟩⟩
                              · rw [if_neg c70] at H
                                have c70b0 : ((wrap64 (rd t144 x88_2)) == (rd x7_1 x88_2)) = false := beq_eq_false_iff_ne.mpr c70
                                have c70b1 : ((wrap64 (rd t144 x88_2)) != (rd x7_1 x88_2)) = true := bne_iff_ne.mpr c70
                                obtain rfl := Option.some.inj H
                                have p164 : 0 ≤ (x88_2 : Int) := of_decide_eq_true (by first | (with_reducible assumption) | assumption)
                                have q164 : x88_2 < (x7_1.length : Int) := of_decide_eq_true (by first | (with_reducible assumption) | assumption)
                                obtain ⟨ad164, e164, hx164_0⟩ := Kd.at_int (Kd.R_reads' HO_86.out).2.2 x88_2 p164 q164
                                cases e164
                                replace p164 := eq_true p164
                                replace q164 := eq_true q164
                                have hcz74_0 : wr.cell? ⟨gb147, 0, none⟩ = some (.int .i64 t143) := (blk_cell BK147.out 0).trans rfl
                                have hcz74_1 : wr.cell? ⟨gb147, 1, none⟩ = some (.slice Ao17 t144.length co17) := (blk_cell BK147.out 1).trans rfl
                                have hfz74_0 := blk_frozen BK147.out 0
                                have hfz74_1 := blk_frozen BK147.out 1
                                have p165 : 0 ≤ (x88_2 : Int) := of_decide_eq_true (by first | (with_reducible assumption) | assumption)
                                have q165 : x88_2 < (t144.length : Int) := of_decide_eq_true (by first | (with_reducible assumption) | assumption)
                                obtain ⟨ad165, e165, hx165_0⟩ := Kd.at_int (Kd.R_reads' HO_148001.out).2.2 x88_2 p165 q165
                                cases e165
                                replace p165 := eq_true p165
                                replace q165 := eq_true q165
                                go_wp2
                                go_ret
                                exact ⟨by first | rfl | (simp [errW_none, errW_some] <;> rfl) | (simp only [← hji8, ← hji10]; first | rfl | (simp [errW_none, errW_some] <;> rfl)) | (simp [*, errW_none, errW_some] <;> rfl), by repeat (first | (with_reducible first | exact HB.out | apply below_alloc | apply pw_below_drewN | apply below_drew1 | refine below_set ?_ GE147.out) | exact HB.out)⟩
                            · rw [if_neg c69] at H
                              exact absurd H (by simp)
                          · rw [if_neg c68] at H
                            exact absurd H (by simp)
                        · rw [if_neg c67] at H
                          exact absurd H (by simp)
                      · rw [if_neg c66] at H
                        have c66b0 : decide (x88_2 < (x7_1.length : Int)) = false := decide_eq_false c66
                        clear c66
                        replace H := Option.bind_eq_some_iff.mp H
                        obtain ⟨t161, A750, H⟩ := H
                        replace H : (if t161 = 0 then ((hll_Hll_Noughts.f k2 t143 t144).bind fun t162 => (if t162 = x15_2 then ((hll_Hll_Top.f t143 t144).bind fun t163 => (some (t163 == (wrap64 (65 - ji8))))) else (some false))) else (some false)) = some r := H
                        have A75 := Aside0.mk A750
                        clear A750
                        by_cases c76 : t161 = 0
                        · rw [if_pos c76] at H
                          have c76b0 : (t161 == 0) = true := beq_iff_eq.mpr c76
                          have c76b1 : (t161 != 0) = false := bne_eq_false_iff_eq.mpr c76
                          clear c76
                          replace H := Option.bind_eq_some_iff.mp H
                          obtain ⟨t162, A770, H⟩ := H
                          replace H : (if t162 = x15_2 then ((hll_Hll_Top.f t143 t144).bind fun t163 => (some (t163 == (wrap64 (65 - ji8))))) else (some false)) = some r := H
                          have A77 := Aside0.mk A770
                          clear A770
                          by_cases c78 : t162 = x15_2
                          · rw [if_pos c78] at H
                            have c78b0 : (t162 == x15_2) = true := beq_iff_eq.mpr c78
                            have c78b1 : (t162 != x15_2) = false := bne_eq_false_iff_eq.mpr c78
                            clear c78
                            replace H := Option.bind_eq_some_iff.mp H
                            obtain ⟨t163, A790, H⟩ := H
                            replace H : (some (t163 == (wrap64 (65 - ji8)))) = some r := H
                            have A79 := Aside0.mk A790
                            clear A790
                            obtain rfl := Option.some.inj H
                            have hcz80_0 : wr.cell? ⟨gb147, 0, none⟩ = some (.int .i64 t143) := (blk_cell BK147.out 0).trans rfl
                            have hcz80_1 : wr.cell? ⟨gb147, 1, none⟩ = some (.slice Ao17 t144.length co17) := (blk_cell BK147.out 1).trans rfl
                            have hfz80_0 := blk_frozen BK147.out 0
                            have hfz80_1 := blk_frozen BK147.out 1
                            go_wp2_with (first | ((with_reducible refine gate_callee (f := 20) rfl ?_); refine goesL_ (some 107) rfl rfl Try.func20 (by kernel_rfl) rfl #[.agg #[.int .i64 t143, .slice Ao17 t144.length co17]] rfl (by (try simp only [List.map_toArray, List.map_cons, List.map_nil]); first | done | rfl | (simp only [List.length_drop, List.length_take]; rfl)) ?_; (with_reducible refine (hll_Hll_Check.calls k2 t143 _ _ t144 t161 _ ?side1 ?side2 A75.out).mono ?_); (case side1 => repeat (first | exact (Kd.R_reads' HO_148001.out).2.2 | (with_reducible refine Kd.C_alloc ?_ _) | (with_reducible refine Kd.C_drewN ?_ _) | (with_reducible refine Kd.C_drew ?_))); (case side2 => exact (Kd.R_reads' HO_148001.out).2.1); rintro e w81 ⟨rfl, hb⟩; refine ⟨_, rfl, ?_⟩; have n0_ := Aside0.mk (Kd.R_below (by (with_reducible repeat (first | apply Kd.R_alloc | apply Kd.R_drewN | apply Kd.R_drew)); exact HO_86.out) hb); have n1_ := Aside0.mk (Kd.R_below (by (with_reducible repeat (first | apply Kd.R_alloc | apply Kd.R_drewN | apply Kd.R_drew)); exact HO_148001.out) hb); have n2_ := Aside0.mk (blk_below (g := gb147) (o := .cells #[.int .i64 t143, .slice Ao17 t144.length co17] 35 (0, 0)) (by (with_reducible repeat (first | refine blk_drewN ?_ _ | refine blk_drew ?_ | refine blk_alloc ?_ _)); exact BK147.out) hb); have n3_ := Aside0.mk (below_step (by repeat (first | (with_reducible first | exact HB.out | apply below_alloc | apply pw_below_drewN | apply below_drew1 | refine below_set ?_ GE147.out) | exact HB.out)) hb); clear HO_86; clear HO_148001; clear BK147; clear HB; have HO_86 := n0_; have HO_148001 := n1_; have BK147 := n2_; have HB := n3_; clear n0_ n1_ n2_ n3_; (try clear hb); (try clear hb2); (try clear hk); (try clear hi); have hcz82_0 : w81.cell? ⟨gb147, 0, none⟩ = some (.int .i64 t143) := (blk_cell BK147.out 0).trans rfl; have hcz82_1 : w81.cell? ⟨gb147, 1, none⟩ = some (.slice Ao17 t144.length co17) := (blk_cell BK147.out 1).trans rfl; have hfz82_0 := blk_frozen BK147.out 0; have hfz82_1 := blk_frozen BK147.out 1) | (go_at_call 30; (with_reducible refine (hll_Hll_Noughts.calls k2 t143 _ _ t144 t162 _ ?side1 ?side2 A77.out).mono ?_); (case side1 => repeat (first | exact (Kd.R_reads' HO_148001.out).2.2 | (with_reducible refine Kd.C_alloc ?_ _) | (with_reducible refine Kd.C_drewN ?_ _) | (with_reducible refine Kd.C_drew ?_))); (case side2 => exact (Kd.R_reads' HO_148001.out).2.1); rintro e w83 ⟨rfl, hb⟩; have n0_ := Aside0.mk (Kd.R_below (by (with_reducible repeat (first | apply Kd.R_alloc | apply Kd.R_drewN | apply Kd.R_drew)); exact HO_86.out) hb); have n1_ := Aside0.mk (Kd.R_below (by (with_reducible repeat (first | apply Kd.R_alloc | apply Kd.R_drewN | apply Kd.R_drew)); exact HO_148001.out) hb); have n2_ := Aside0.mk (blk_below (g := gb147) (o := .cells #[.int .i64 t143, .slice Ao17 t144.length co17] 35 (0, 0)) (by (with_reducible repeat (first | refine blk_drewN ?_ _ | refine blk_drew ?_ | refine blk_alloc ?_ _)); exact BK147.out) hb); have n3_ := Aside0.mk (below_step (by repeat (first | (with_reducible first | exact HB.out | apply below_alloc | apply pw_below_drewN | apply below_drew1 | refine below_set ?_ GE147.out) | exact HB.out)) hb); clear HO_86; clear HO_148001; clear BK147; clear HB; have HO_86 := n0_; have HO_148001 := n1_; have BK147 := n2_; have HB := n3_; clear n0_ n1_ n2_ n3_; (try clear hb); (try clear hb2); (try clear hk); (try clear hi); have hcz84_0 : w83.cell? ⟨gb147, 0, none⟩ = some (.int .i64 t143) := (blk_cell BK147.out 0).trans rfl; have hcz84_1 : w83.cell? ⟨gb147, 1, none⟩ = some (.slice Ao17 t144.length co17) := (blk_cell BK147.out 1).trans rfl; have hfz84_0 := blk_frozen BK147.out 0; have hfz84_1 := blk_frozen BK147.out 1) | (go_at_call 23; (with_reducible refine (hll_Hll_Top.calls t143 _ _ t144 t163 _ ?side1 ?side2 A79.out).mono ?_); (case side1 => repeat (first | exact (Kd.R_reads' HO_148001.out).2.2 | (with_reducible refine Kd.C_alloc ?_ _) | (with_reducible refine Kd.C_drewN ?_ _) | (with_reducible refine Kd.C_drew ?_))); (case side2 => exact (Kd.R_reads' HO_148001.out).2.1); rintro e w85 ⟨rfl, hb⟩; have n0_ := Aside0.mk (Kd.R_below (by (with_reducible repeat (first | apply Kd.R_alloc | apply Kd.R_drewN | apply Kd.R_drew)); exact HO_86.out) hb); have n1_ := Aside0.mk (Kd.R_below (by (with_reducible repeat (first | apply Kd.R_alloc | apply Kd.R_drewN | apply Kd.R_drew)); exact HO_148001.out) hb); have n2_ := Aside0.mk (blk_below (g := gb147) (o := .cells #[.int .i64 t143, .slice Ao17 t144.length co17] 35 (0, 0)) (by (with_reducible repeat (first | refine blk_drewN ?_ _ | refine blk_drew ?_ | refine blk_alloc ?_ _)); exact BK147.out) hb); have n3_ := Aside0.mk (below_step (by repeat (first | (with_reducible first | exact HB.out | apply below_alloc | apply pw_below_drewN | apply below_drew1 | refine below_set ?_ GE147.out) | exact HB.out)) hb); clear HO_86; clear HO_148001; clear BK147; clear HB; have HO_86 := n0_; have HO_148001 := n1_; have BK147 := n2_; have HB := n3_; clear n0_ n1_ n2_ n3_; (try clear hb); (try clear hb2); (try clear hk); (try clear hi)))
                            go_ret
                            exact ⟨by first | rfl | (simp [errW_none, errW_some] <;> rfl) | (simp only [← hji8, ← hji10]; first | rfl | (simp [errW_none, errW_some] <;> rfl)) | (simp [*, errW_none, errW_some] <;> rfl), by repeat (first | (with_reducible first | exact HB.out | apply below_alloc | apply pw_below_drewN | apply below_drew1 | refine below_set ?_ GE147.out) | exact HB.out)⟩
                          · rw [if_neg c78] at H
                            have c78b0 : (t162 == x15_2) = false := beq_eq_false_iff_ne.mpr c78
                            have c78b1 : (t162 != x15_2) = true := bne_iff_ne.mpr c78
                            obtain rfl := Option.some.inj H
                            have hcz86_0 : wr.cell? ⟨gb147, 0, none⟩ = some (.int .i64 t143) := (blk_cell BK147.out 0).trans rfl
                            have hcz86_1 : wr.cell? ⟨gb147, 1, none⟩ = some (.slice Ao17 t144.length co17) := (blk_cell BK147.out 1).trans rfl
                            have hfz86_0 := blk_frozen BK147.out 0
                            have hfz86_1 := blk_frozen BK147.out 1
                            go_wp2_with (first | ((with_reducible refine gate_callee (f := 20) rfl ?_); refine goesL_ (some 107) rfl rfl Try.func20 (by kernel_rfl) rfl #[.agg #[.int .i64 t143, .slice Ao17 t144.length co17]] rfl (by (try simp only [List.map_toArray, List.map_cons, List.map_nil]); first | done | rfl | (simp only [List.length_drop, List.length_take]; rfl)) ?_; (with_reducible refine (hll_Hll_Check.calls k2 t143 _ _ t144 t161 _ ?side1 ?side2 A75.out).mono ?_); (case side1 => repeat (first | exact (Kd.R_reads' HO_148001.out).2.2 | (with_reducible refine Kd.C_alloc ?_ _) | (with_reducible refine Kd.C_drewN ?_ _) | (with_reducible refine Kd.C_drew ?_))); (case side2 => exact (Kd.R_reads' HO_148001.out).2.1); rintro e w87 ⟨rfl, hb⟩; refine ⟨_, rfl, ?_⟩; have n0_ := Aside0.mk (Kd.R_below (by (with_reducible repeat (first | apply Kd.R_alloc | apply Kd.R_drewN | apply Kd.R_drew)); exact HO_86.out) hb); have n1_ := Aside0.mk (Kd.R_below (by (with_reducible repeat (first | apply Kd.R_alloc | apply Kd.R_drewN | apply Kd.R_drew)); exact HO_148001.out) hb); have n2_ := Aside0.mk (blk_below (g := gb147) (o := .cells #[.int .i64 t143, .slice Ao17 t144.length co17] 35 (0, 0)) (by (with_reducible repeat (first | refine blk_drewN ?_ _ | refine blk_drew ?_ | refine blk_alloc ?_ _)); exact BK147.out) hb); have n3_ := Aside0.mk (below_step (by repeat (first | (with_reducible first | exact HB.out | apply below_alloc | apply pw_below_drewN | apply below_drew1 | refine below_set ?_ GE147.out) | exact HB.out)) hb); clear HO_86; clear HO_148001; clear BK147; clear HB; have HO_86 := n0_; have HO_148001 := n1_; have BK147 := n2_; have HB := n3_; clear n0_ n1_ n2_ n3_; (try clear hb); (try clear hb2); (try clear hk); (try clear hi); have hcz88_0 : w87.cell? ⟨gb147, 0, none⟩ = some (.int .i64 t143) := (blk_cell BK147.out 0).trans rfl; have hcz88_1 : w87.cell? ⟨gb147, 1, none⟩ = some (.slice Ao17 t144.length co17) := (blk_cell BK147.out 1).trans rfl; have hfz88_0 := blk_frozen BK147.out 0; have hfz88_1 := blk_frozen BK147.out 1) | (go_at_call 30; (with_reducible refine (hll_Hll_Noughts.calls k2 t143 _ _ t144 t162 _ ?side1 ?side2 A77.out).mono ?_); (case side1 => repeat (first | exact (Kd.R_reads' HO_148001.out).2.2 | (with_reducible refine Kd.C_alloc ?_ _) | (with_reducible refine Kd.C_drewN ?_ _) | (with_reducible refine Kd.C_drew ?_))); (case side2 => exact (Kd.R_reads' HO_148001.out).2.1); rintro e w89 ⟨rfl, hb⟩; have n0_ := Aside0.mk (Kd.R_below (by (with_reducible repeat (first | apply Kd.R_alloc | apply Kd.R_drewN | apply Kd.R_drew)); exact HO_86.out) hb); have n1_ := Aside0.mk (Kd.R_below (by (with_reducible repeat (first | apply Kd.R_alloc | apply Kd.R_drewN | apply Kd.R_drew)); exact HO_148001.out) hb); have n2_ := Aside0.mk (blk_below (g := gb147) (o := .cells #[.int .i64 t143, .slice Ao17 t144.length co17] 35 (0, 0)) (by (with_reducible repeat (first | refine blk_drewN ?_ _ | refine blk_drew ?_ | refine blk_alloc ?_ _)); exact BK147.out) hb); have n3_ := Aside0.mk (below_step (by repeat (first | (with_reducible first | exact HB.out | apply below_alloc | apply pw_below_drewN | apply below_drew1 | refine below_set ?_ GE147.out) | exact HB.out)) hb); clear HO_86; clear HO_148001; clear BK147; clear HB; have HO_86 := n0_; have HO_148001 := n1_; have BK147 := n2_; have HB := n3_; clear n0_ n1_ n2_ n3_; (try clear hb); (try clear hb2); (try clear hk); (try clear hi)))
                            go_ret
                            exact ⟨by first | rfl | (simp [errW_none, errW_some] <;> rfl) | (simp only [← hji8, ← hji10]; first | rfl | (simp [errW_none, errW_some] <;> rfl)) | (simp [*, errW_none, errW_some] <;> rfl), by repeat (first | (with_reducible first | exact HB.out | apply below_alloc | apply pw_below_drewN | apply below_drew1 | refine below_set ?_ GE147.out) | exact HB.out)⟩
                        · rw [if_neg c76] at H
                          have c76b0 : (t161 == 0) = false := beq_eq_false_iff_ne.mpr c76
                          have c76b1 : (t161 != 0) = true := bne_iff_ne.mpr c76
                          obtain rfl := Option.some.inj H
                          have hcz90_0 : wr.cell? ⟨gb147, 0, none⟩ = some (.int .i64 t143) := (blk_cell BK147.out 0).trans rfl
                          have hcz90_1 : wr.cell? ⟨gb147, 1, none⟩ = some (.slice Ao17 t144.length co17) := (blk_cell BK147.out 1).trans rfl
                          have hfz90_0 := blk_frozen BK147.out 0
                          have hfz90_1 := blk_frozen BK147.out 1
                          go_wp2_with (first | ((with_reducible refine gate_callee (f := 20) rfl ?_); refine goesL_ (some 107) rfl rfl Try.func20 (by kernel_rfl) rfl #[.agg #[.int .i64 t143, .slice Ao17 t144.length co17]] rfl (by (try simp only [List.map_toArray, List.map_cons, List.map_nil]); first | done | rfl | (simp only [List.length_drop, List.length_take]; rfl)) ?_; (with_reducible refine (hll_Hll_Check.calls k2 t143 _ _ t144 t161 _ ?side1 ?side2 A75.out).mono ?_); (case side1 => repeat (first | exact (Kd.R_reads' HO_148001.out).2.2 | (with_reducible refine Kd.C_alloc ?_ _) | (with_reducible refine Kd.C_drewN ?_ _) | (with_reducible refine Kd.C_drew ?_))); (case side2 => exact (Kd.R_reads' HO_148001.out).2.1); rintro e w91 ⟨rfl, hb⟩; refine ⟨_, rfl, ?_⟩; have n0_ := Aside0.mk (Kd.R_below (by (with_reducible repeat (first | apply Kd.R_alloc | apply Kd.R_drewN | apply Kd.R_drew)); exact HO_86.out) hb); have n1_ := Aside0.mk (Kd.R_below (by (with_reducible repeat (first | apply Kd.R_alloc | apply Kd.R_drewN | apply Kd.R_drew)); exact HO_148001.out) hb); have n2_ := Aside0.mk (blk_below (g := gb147) (o := .cells #[.int .i64 t143, .slice Ao17 t144.length co17] 35 (0, 0)) (by (with_reducible repeat (first | refine blk_drewN ?_ _ | refine blk_drew ?_ | refine blk_alloc ?_ _)); exact BK147.out) hb); have n3_ := Aside0.mk (below_step (by repeat (first | (with_reducible first | exact HB.out | apply below_alloc | apply pw_below_drewN | apply below_drew1 | refine below_set ?_ GE147.out) | exact HB.out)) hb); clear HO_86; clear HO_148001; clear BK147; clear HB; have HO_86 := n0_; have HO_148001 := n1_; have BK147 := n2_; have HB := n3_; clear n0_ n1_ n2_ n3_; (try clear hb); (try clear hb2); (try clear hk); (try clear hi)))
                          go_ret
                          exact ⟨by first | rfl | (simp [errW_none, errW_some] <;> rfl) | (simp only [← hji8, ← hji10]; first | rfl | (simp [errW_none, errW_some] <;> rfl)) | (simp [*, errW_none, errW_some] <;> rfl), by repeat (first | (with_reducible first | exact HB.out | apply below_alloc | apply pw_below_drewN | apply below_drew1 | refine below_set ?_ GE147.out) | exact HB.out)⟩
          · rw [if_neg c12] at H
            exact absurd H (by simp)
        · rw [if_neg c11] at H
          exact absurd H (by simp)
      · rw [if_neg c9] at H
        exact absurd H (by simp)
  · replace c4 := Bool.eq_false_iff.mpr c4
    subst c4
    have H1 : (some false) = some r := by rw [if_neg (show ¬ (false = true) by decide)] at H; exact H
    clear H
    have H := H1
    clear H1
    obtain rfl := Option.some.inj H
    go_enter Try.func11, Try.ntmps11
    go_wp2_with (first | ((with_reducible refine gate_callee (f := 17) rfl ?_); refine goesL_ (some 18) rfl rfl Try.func17 (by kernel_rfl) rfl #[] rfl (by (try simp only [List.map_toArray, List.map_cons, List.map_nil]); first | done | rfl | (simp only [List.length_drop, List.length_take]; rfl)) ?_; (with_reducible refine (herbariumlaw13_Awake.calls  false _ A3.out).mono ?_); rintro e w92 ⟨rfl, hb⟩; refine ⟨_, rfl, ?_⟩; have n0_ := Aside0.mk (below_step (by repeat (first | (with_reducible first | exact HB.out | apply below_alloc | apply pw_below_drewN | apply below_drew1) | exact HB.out)) hb); clear HB; have HB := n0_; clear n0_; (try clear hb); (try clear hb2); (try clear hk); (try clear hi)))
    go_ret
    exact ⟨by first | rfl | (simp [errW_none, errW_some] <;> rfl) | (simp [*, errW_none, errW_some] <;> rfl), by repeat (first | (with_reducible first | exact HB.out | apply below_alloc | apply pw_below_drewN | apply below_drew1) | exact HB.out)⟩

/-- THE ONE PURE STATEMENT of herbariumlaw13_HllAdds: yours. -/
def herbariumlaw13_HllAdds.Pure : Prop := ∀ (a0 : Int) (l1 : List Int), (Lit.int .u8 a0).wf = true → l1.length ≤ maxLen → l1.length * 8 ≤ 140737488351232 → (∀ x ∈ l1, (Lit.int .u64 x).wf = true) → ∃ k, herbariumlaw13_HllAdds.f k a0 l1 = some true
theorem herbariumlaw13_HllAdds.walk (P : herbariumlaw13_HllAdds.Pure) (a0 : Int) (a1 : Option Addr) (len1 cap1 : Nat) (z1 : List Int) (w : World) (w0 : (Lit.int .u8 a0).wf = true) (w1 : (a1 = none ∧ len1 = 0 ∧ cap1 = 0 ∧ z1 = []) ∨ ∃ x, a1 = some x ∧ len1 ≤ cap1 ∧ cap1 ≤ maxLen ∧ z1.length = cap1 ∧ (∀ i, i < z1.length → w.cell? (x.add i) = some (.int .u64 (z1.getD i 0))) ∧ ∀ n ∈ z1, (Lit.int .u64 n).wf = true) (y1 : len1 * 8 ≤ 140737488351232) :
    Calls Try.prog 11 #[.int .u8 a0, .slice a1 len1 cap1] w fun e w' => e = .returned (.bool true) ∧ Below w.heap.size w w' := by
  obtain ⟨l1, rfl, hr1, hm1, hw1, hc1⟩ := ReadsInt.ofRowC w1
  obtain ⟨k, h⟩ := P a0 l1 w0 hm1 y1 hw1
  refine (herbariumlaw13_HllAdds.calls k a0 _ _ l1 true w (Kd.C_of_reads (d := (0 : Int)) (h1 := fun _ => rfl) hr1) hc1 h).mono ?_
  rintro e w' ⟨rfl, hd⟩
  exact ⟨rfl, hd⟩

end Go.Proofs.Ytolhhbnamldghaa.PHllAdds
