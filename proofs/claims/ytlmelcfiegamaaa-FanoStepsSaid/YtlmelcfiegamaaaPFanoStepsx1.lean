-- Written by the kit's print.py over texts that my own driver gave it; not typed by hand.
import Derived.Test.YtlmelcfiegamaaaRicePut
import Derived.Test.YtlmelcfiegamaaaFanoR
import Derived.Test.YtlmelcfiegamaaaKd
import Derived.Test.YtlmelcfiegamaaaPFanoStepsx0
namespace Go.Proofs.Ytlmelcfiegamaaa.PFanoSteps
open Go.RowKit Go.Proofs.YtlmelcfiegamaaaW.PrintWords Go.Proofs.YtlmelcfiegamaaaW.PrintLast Go.Proofs.YtlmelcfiegamaaaW.PrintMore
attribute [local go_sem] max2_int min2_int max_two min_two max_three min_three max_four min_four   -- for this text's walks alone
set_option linter.unusedVariables false
set_option linter.unusedSimpArgs false

/-! ### fano_lower: function 46 -/
def fano_lower.l0 : Nat → Int → Int → Int → Option (Int)
  | 0, _, _, _ => none
  | k + 1, x0, x1, x5 => if x0 > 0 then (if 0 ≤ (wrap64 (x5 + 1)) then (if (shr .u64 (IntKind.u64.wrap (x1)) (wrap64 (x5 + 1))) ≥ (IntKind.u64.wrap (x0)) then (fano_lower.l0 k x0 x1 (wrap64 (x5 + 1))) else (some x5)) else (none)) else (some x5)
def fano_lower.f (k : Nat) (a0 : Int) (a1 : Int) : Option (Int) := fano_lower.l0 k a0 a1 0
theorem fano_lower.mono_l : ∀ k, (∀ y0 y1 y2, LeO (fano_lower.l0 k y0 y1 y2) (fano_lower.l0 (k + 1) y0 y1 y2))
  | 0 => fun _ _ _ r h => by simp [fano_lower.l0] at h
  | k + 1 => by
    have ih0 := fano_lower.mono_l k
    · intro y0 y1 y2
      unfold fano_lower.l0
      repeat' first
      | (with_reducible exact ih0 _ _ _)
      | (with_reducible exact LeO.refl _)
      | (with_reducible exact LeO.none _)
      | (with_reducible refine LeO.ite ?_ ?_)
      | (with_reducible refine LeO.bind ?_ (fun _ => ?_))
      | exact ih0 _ _ _
      | exact LeO.none _
      | refine LeO.ite ?_ ?_
      | refine LeO.bind ?_ (fun _ => ?_)
theorem fano_lower.mono : ∀ a0 a1 k, LeO (fano_lower.f k a0 a1) (fano_lower.f (k + 1) a0 a1) := by
  intro a0 a1 k
  have ih0 := fano_lower.mono_l k
  unfold fano_lower.f
  repeat' first
      | (with_reducible exact ih0 _ _ _)
      | (with_reducible exact LeO.refl _)
      | (with_reducible exact LeO.none _)
      | (with_reducible refine LeO.ite ?_ ?_)
      | (with_reducible refine LeO.bind ?_ (fun _ => ?_))
      | exact ih0 _ _ _
      | exact LeO.none _
      | refine LeO.ite ?_ ?_
      | refine LeO.bind ?_ (fun _ => ?_)
set_option maxHeartbeats 8000000 in
set_option maxRecDepth 100000 in
theorem fano_lower.calls (k : Nat) (a0 : Int) (a1 : Int) (r : Int) (w : World) (h : fano_lower.f k a0 a1 = some r) :
    Calls Try.prog 46 #[.int .i64 a0, .int .u32 a1] w fun e w' => e = .returned (.int .i64 r) ∧ Drawn0 w w' := by
  have H : (fano_lower.l0 k a0 a1 0) = some r := h
  clear h
  have H' := Aside0.mk H
  clear H
  go_enter Try.func46, Try.ntmps46
  go_wp2
  go_loopg [5] k (fun kq v5 w' => ∃ (x5_1 : Int), v5 = .int .i64 x5_1 ∧ Aside0 (fano_lower.l0 kq a0 a1 x5_1 = some r) ∧ Aside0 (kq ≤ k) ∧ Drawn0 w w')
  case atStart => exact ⟨(0), (by first | rfl | (simp; done) | (simp [*]; done)), H', ⟨Nat.le_refl _⟩, by repeat (first | exact Drawn0.refl _ | apply Drawn0.step)⟩
  case round =>
    clear H'
    try clear p2
    obtain ⟨x5_1, rfl, HA, HK1, ⟨m1, rfl⟩⟩ := hrel
    cases gk with
    | zero => exact absurd HA.out (by simp [fano_lower.l0])
    | succ k1 =>
      have H := HA.out
      clear HA
      simp only [fano_lower.l0] at H
      by_cases c3 : a0 > 0
      · rw [if_pos c3] at H
        have c3b0 : decide (0 < a0) = true := decide_eq_true c3
        clear c3
        obtain ⟨ji4, hji4⟩ : ∃ j_ : Int, (wrap64 (x5_1 + 1)) = j_ := ⟨_, rfl⟩
        replace H : (if 0 ≤ (ji4) then (if (shr .u64 (IntKind.u64.wrap (a1)) (ji4)) ≥ (IntKind.u64.wrap (a0)) then (fano_lower.l0 k1 a0 a1 ji4) else (some x5_1)) else (none)) = some r := by first | (rw [hji4] at H; exact H) | (simp only [hji4] at H ⊢; exact H)
        have hji4w : (IntKind.i64.wrap (x5_1 + 1)) = ji4 := (i64_w _).trans hji4
        by_cases c5 : 0 ≤ (ji4)
        · rw [if_pos c5] at H
          have c5b0 := eq_true c5
          have c5b1 : decide (0 ≤ (ji4)) = true := decide_eq_true c5
          clear c5
          obtain ⟨ji6, hji6⟩ : ∃ j_ : Int, (shr .u64 (IntKind.u64.wrap (a1)) (ji4)) = j_ := ⟨_, rfl⟩
          replace H : (if (ji6) ≥ (IntKind.u64.wrap (a0)) then (fano_lower.l0 k1 a0 a1 ji4) else (some x5_1)) = some r := by first | (rw [hji6] at H; exact H) | (simp only [hji6] at H ⊢; exact H)
          have hji6_ : ((IntKind.u64.wrap (a1)) / 2 ^ min (ji4).toNat 64) = ji6 := hji6
          have hji6z : (ji4) ≤ 64 → ((IntKind.u64.wrap (a1)) / 2 ^ (ji4).toNat) = ji6 := shr_small hji6
          by_cases c7 : (ji6) ≥ (IntKind.u64.wrap (a0))
          · rw [if_pos c7] at H
            have c7b0 : decide ((IntKind.u64.wrap (a0)) ≤ (ji6)) = true := decide_eq_true c7
            clear c7
            have H' := Aside0.mk H
            clear H
            go_wp2
            go_roundg k1
            case measure => have := HK1.out; omega
            case rel => exact ⟨(ji4), (by first | rfl | (simp; done) | (simp only [← hji4] <;> (first | rfl | simp)) | (simp [*]; done)), H', ⟨by have := HK1.out; omega⟩, by repeat (first | exact Drawn0.refl _ | apply Drawn0.step)⟩
          · rw [if_neg c7] at H
            have c7b0 : decide ((IntKind.u64.wrap (a0)) ≤ (ji6)) = false := decide_eq_false c7
            clear c7
            obtain rfl := Option.some.inj H
            go_wp2
            go_ret
            exact ⟨by first | rfl | (simp; done) | (simp only [← hji4, ← hji6] <;> (first | rfl | simp)) | (simp [*]; done), by repeat (first | exact Drawn0.refl _ | apply Drawn0.step)⟩
        · rw [if_neg c5] at H
          exact absurd H (by simp)
      · rw [if_neg c3] at H
        have c3b0 : decide (0 < a0) = false := decide_eq_false c3
        clear c3
        obtain rfl := Option.some.inj H
        go_wp2
        go_ret
        exact ⟨by first | rfl | (simp; done) | (simp [*]; done), by repeat (first | exact Drawn0.refl _ | apply Drawn0.step)⟩

-- NOT PRINTED: function 47 (bits_Writer_Put)

-- NOT PRINTED: function 48 (bits_Writer_Unary)

-- NOT PRINTED: function 49 (bits_Writer_Bytes)

/-! ### fano_Of: function 17 -/
def fano_Of.f (l0 : List Int) : Option (Int × Int × Int × List Int × List Int × Int) := if Fano.nfB l0 = true then some ((l0.length : Int), (Fano.lastN l0 : Int), (Fano.lowF l0 : Int), Fano.lowsF l0, Fano.highF l0, 0) else none
theorem fano_Of.calls (A0 : Option Addr) (c0 : Nat) (l0 : List Int) (r1 : Int) (r2 : Int) (r3 : Int) (r4 : List Int) (r5 : List Int) (r6 : Int) (w : World) (hr0 : Kd.C (Kd.int .u32) w A0 l0.length l0) (hc0 : l0.length ≤ c0) (h : fano_Of.f l0 = some (r1, r2, r3, r4, r5, r6)) :
    Calls Try.prog 17 #[.slice A0 l0.length c0] w fun e w' => ∃ v3_ v4_ : Value, e = .returned (.tuple #[.agg #[.int .i64 r1, .int .u32 r2, .int .i64 r3, v3_, v4_], .int .i64 r6]) ∧ Kd.R (Kd.int .u8) 5 w' w.heap.size (fun k_ => some k_ ≠ (v4_ : Value).ownBlock) v3_ r4 ∧ Kd.R (Kd.int .u8) 5 w' w.heap.size (fun k_ => some k_ ≠ (v3_ : Value).ownBlock) v4_ r5 ∧ Below w.heap.size w w' := by
  unfold fano_Of.f at h
  split at h
  · rename_i hq
    obtain ⟨q1, q2, q3⟩ := (Fano.nfB_iff l0).1 hq
    have h' := Option.some.inj h
    simp only [Prod.mk.injEq] at h'
    obtain ⟨rfl, rfl, rfl, rfl, rfl, rfl⟩ := h'
    exact Fano.of_R A0 c0 l0 w (KdX.reads_of_C hr0) q3 q2 q1
  · cases h

-- NOT PRINTED: function 53 (wire_Writer_Byte)

-- NOT PRINTED: function 50 (wire_Writer_Uint)

-- NOT PRINTED: function 51 (wire_Writer_Put)

-- NOT PRINTED: function 18 (fano_Row_Put)

-- NOT PRINTED: function 30 (wire_Writer_Bytes)

/-! ### herbariumlaw06_Awake: function 15 -/
def herbariumlaw06_Awake.f : Option (Bool) := some true
theorem herbariumlaw06_Awake.calls  (r : Bool) (w : World) (h : herbariumlaw06_Awake.f  = some r) :
    Calls Try.prog 15 #[] w fun e w' => e = .returned (.bool r) ∧ Below w.heap.size w w' := by
  obtain rfl : true = r := Option.some.inj h
  exact Fano.awake6 w

/-! ### herbariumlaw06_Slow: function 16 -/
def herbariumlaw06_Slow.f (l0 : List Int) (l1 : List Int) : Option (List Int) := if (l0.all fun x => decide (0 ≤ x ∧ x ≤ 65535)) = true ∧ (l1.all fun x => decide (0 ≤ x ∧ x ≤ 4294967295)) = true ∧ l0.length ≤ 4096 ∧ l1.length ≤ 140737488351232 then some (Fano.slowL l0 l1) else none
theorem herbariumlaw06_Slow.calls (A0 : Option Addr) (c0 : Nat) (l0 : List Int) (A1 : Option Addr) (c1 : Nat) (l1 : List Int) (r : List Int) (w : World) (hr0 : Kd.C (Kd.int .u16) w A0 l0.length l0) (hc0 : l0.length ≤ c0) (hr1 : Kd.C (Kd.int .u32) w A1 l1.length l1) (hc1 : l1.length ≤ c1) (h : herbariumlaw06_Slow.f l0 l1 = some r) :
    Calls Try.prog 16 #[.slice A0 l0.length c0, .slice A1 l1.length c1] w fun e w' => ∃ v0_ : Value, e = .returned (v0_) ∧ Kd.R (Kd.int .u32) 26 w' w.heap.size (fun _ => True) v0_ r ∧ Below w.heap.size w w' := by
  unfold herbariumlaw06_Slow.f at h
  split at h
  · rename_i hq
    obtain rfl := Option.some.inj h
    exact Fano.slow_R A0 A1 c0 c1 l0 l1 w (KdX.reads_of_C hr0) (KdX.reads_of_C hr1) hq.2.2.1 hq.2.2.2 (fun x hx => by simpa using List.all_eq_true.1 hq.1 x hx) (fun x hx => by simpa using List.all_eq_true.1 hq.2.1 x hx)
  · cases h

/-! ### fano_Row_Select: function 25 -/
def fano_Row_Select.f (a0_0 : Int) (a0_1 : Int) (a0_2 : Int) (l0_3 : List Int) (l0_4 : List Int) (a1 : Int) : Option (Int × Bool) := if -9223372036854775808 ≤ a1 ∧ a1 ≤ 9223372036854775807 then (Fano.rowOf a0_0 a0_1 a0_2 l0_3 l0_4).map (fun l => Fano.selR l a1) else none
theorem fano_Row_Select.calls (a0_0 : Int) (a0_1 : Int) (a0_2 : Int) (A0_3 : Option Addr) (c0_3 : Nat) (l0_3 : List Int) (A0_4 : Option Addr) (c0_4 : Nat) (l0_4 : List Int) (a1 : Int) (r1 : Int) (r2 : Bool) (w : World) (hr0_3 : Kd.C (Kd.int .u8) w A0_3 l0_3.length l0_3) (hc0_3 : l0_3.length ≤ c0_3) (hr0_4 : Kd.C (Kd.int .u8) w A0_4 l0_4.length l0_4) (hc0_4 : l0_4.length ≤ c0_4) (h : fano_Row_Select.f a0_0 a0_1 a0_2 l0_3 l0_4 a1 = some (r1, r2)) :
    Calls Try.prog 25 #[.agg #[.int .i64 a0_0, .int .u32 a0_1, .int .i64 a0_2, .slice A0_3 l0_3.length c0_3, .slice A0_4 l0_4.length c0_4], .int .i64 a1] w fun e w' => e = .returned (.tuple #[.int .u32 r1, .bool r2]) ∧ Below w.heap.size w w' := by
  unfold fano_Row_Select.f at h
  split at h
  · rename_i hq
    obtain ⟨l, hl, hr⟩ := Option.map_eq_some_iff.1 h
    have hL := Fano.lies_of (c3 := c0_3) (c4 := c0_4) hl hr0_3 hr0_4
    obtain ⟨_, rfl, rfl, rfl, rfl, rfl⟩ := Fano.rowOf_some hl
    refine (Fano.select_c hL a1 hq).mono ?_
    rintro e w' ⟨rfl, hx⟩
    rw [Fano.selV_R, hr]
    exact ⟨rfl, hx⟩
  · cases h

/-! ### fano_Row_From: function 26 -/
def fano_Row_From.f (a0_0 : Int) (a0_1 : Int) (a0_2 : Int) (l0_3 : List Int) (l0_4 : List Int) (a1 : Int) : Option (Int × Int × Bool) := (Fano.rowOf a0_0 a0_1 a0_2 l0_3 l0_4).map (fun l => Fano.fromR l a1)
theorem fano_Row_From.calls (a0_0 : Int) (a0_1 : Int) (a0_2 : Int) (A0_3 : Option Addr) (c0_3 : Nat) (l0_3 : List Int) (A0_4 : Option Addr) (c0_4 : Nat) (l0_4 : List Int) (a1 : Int) (r1 : Int) (r2 : Int) (r3 : Bool) (w : World) (hr0_3 : Kd.C (Kd.int .u8) w A0_3 l0_3.length l0_3) (hc0_3 : l0_3.length ≤ c0_3) (hr0_4 : Kd.C (Kd.int .u8) w A0_4 l0_4.length l0_4) (hc0_4 : l0_4.length ≤ c0_4) (h : fano_Row_From.f a0_0 a0_1 a0_2 l0_3 l0_4 a1 = some (r1, r2, r3)) :
    Calls Try.prog 26 #[.agg #[.int .i64 a0_0, .int .u32 a0_1, .int .i64 a0_2, .slice A0_3 l0_3.length c0_3, .slice A0_4 l0_4.length c0_4], .int .u32 a1] w fun e w' => e = .returned (.tuple #[.int .u32 r1, .int .i64 r2, .bool r3]) ∧ Below w.heap.size w w' := by
  unfold fano_Row_From.f at h
  obtain ⟨l, hl, hr⟩ := Option.map_eq_some_iff.1 h
  have hL := Fano.lies_of (c3 := c0_3) (c4 := c0_4) hl hr0_3 hr0_4
  obtain ⟨_, rfl, rfl, rfl, rfl, rfl⟩ := Fano.rowOf_some hl
  refine (Fano.from_c hL a1).mono ?_
  rintro e w' ⟨rfl, hx⟩
  rw [Fano.fromV_R, hr]
  exact ⟨rfl, hx⟩

/-! ### fano_Row_Len: function 29 -/
def fano_Row_Len.f (a0_0 : Int) (a0_1 : Int) (a0_2 : Int) (l0_3 : List Int) (l0_4 : List Int) : Option (Int) := some a0_0
set_option maxHeartbeats 8000000 in
set_option maxRecDepth 100000 in
theorem fano_Row_Len.calls (a0_0 : Int) (a0_1 : Int) (a0_2 : Int) (A0_3 : Option Addr) (c0_3 : Nat) (l0_3 : List Int) (A0_4 : Option Addr) (c0_4 : Nat) (l0_4 : List Int) (r : Int) (w : World) (hr0_3 : Kd.C (Kd.int .u8) w A0_3 l0_3.length l0_3) (hc0_3 : l0_3.length ≤ c0_3) (hr0_4 : Kd.C (Kd.int .u8) w A0_4 l0_4.length l0_4) (hc0_4 : l0_4.length ≤ c0_4) (h : fano_Row_Len.f a0_0 a0_1 a0_2 l0_3 l0_4 = some r) :
    Calls Try.prog 29 #[.agg #[.int .i64 a0_0, .int .u32 a0_1, .int .i64 a0_2, .slice A0_3 l0_3.length c0_3, .slice A0_4 l0_4.length c0_4]] w fun e w' => e = .returned (.int .i64 r) ∧ Below w.heap.size w w' := by
  have hu29 := Try.underlying29
  have HR0_3 := Aside0.mk hr0_3
  have HC0_3 := Aside0.mk hc0_3
  clear hr0_3 hc0_3
  have HR0_4 := Aside0.mk hr0_4
  have HC0_4 := Aside0.mk hc0_4
  clear hr0_4 hc0_4
  have HB := Aside0.mk (Below.refl w.heap.size w)
  have H : (some a0_0) = some r := h
  clear h
  obtain rfl := Option.some.inj H
  go_enter Try.func29, Try.ntmps29
  go_wp2_with (first | ((with_reducible refine gate_dst (N := 1) rfl ?_); refine box_event ?hg (N := 1) ?hd (cs := #[.int .i64 a0_0, .int .u32 a0_1, .int .i64 a0_2, .slice A0_3 l0_3.length c0_3, .slice A0_4 l0_4.length c0_4]) (t := 29) ?hr ?_; (case hd => rfl); (case hg => rfl); (case hr => first | (go_simp; done) | (go_simp; rfl)); intro gb122 hg w2 hbox hb; have n0_ := Aside0.mk (below_step (by repeat (first | (with_reducible first | exact HB.out | apply below_alloc | apply pw_below_drewN | apply below_drew1) | exact HB.out)) hb); have n1_ := Aside0.mk (hbox); have n2_ := Aside0.mk ((by rw [hg]; exact (below_size (by repeat (first | (with_reducible first | exact HB.out | apply below_alloc | apply pw_below_drewN | apply below_drew1) | exact HB.out))) : w.heap.size ≤ gb122)); have n3_ := Aside0.mk ((by rw [hg]; exact (below_size (by repeat (first | (with_reducible first | exact HB.out | apply below_alloc | apply pw_below_drewN | apply below_drew1) | exact HB.out))) : w.heap.size ≤ gb122)); clear HB; have HB := n0_; have BK122 := n1_; have GW122 := n2_; have GE122 := n3_; clear n0_ n1_ n2_ n3_; clear hb hbox hg; have hcz3_0 : w2.cell? ⟨gb122, 0, none⟩ = some (.int .i64 a0_0) := (blk_cell BK122.out 0).trans rfl; have hcz3_1 : w2.cell? ⟨gb122, 1, none⟩ = some (.int .u32 a0_1) := (blk_cell BK122.out 1).trans rfl; have hcz3_2 : w2.cell? ⟨gb122, 2, none⟩ = some (.int .i64 a0_2) := (blk_cell BK122.out 2).trans rfl; have hcz3_3 : w2.cell? ⟨gb122, 3, none⟩ = some (.slice A0_3 l0_3.length c0_3) := (blk_cell BK122.out 3).trans rfl; have hcz3_4 : w2.cell? ⟨gb122, 4, none⟩ = some (.slice A0_4 l0_4.length c0_4) := (blk_cell BK122.out 4).trans rfl; have hfz3_0 := blk_frozen BK122.out 0; have hfz3_1 := blk_frozen BK122.out 1; have hfz3_2 := blk_frozen BK122.out 2; have hfz3_3 := blk_frozen BK122.out 3; have hfz3_4 := blk_frozen BK122.out 4))
  go_ret
  exact ⟨by first | rfl | (simp [errW_none, errW_some] <;> rfl) | (simp [*, errW_none, errW_some] <;> rfl), by repeat (first | (with_reducible first | exact HB.out | apply below_alloc | apply pw_below_drewN | apply below_drew1 | refine below_set ?_ GE122.out) | exact HB.out)⟩

end Go.Proofs.Ytlmelcfiegamaaa.PFanoSteps
