/- P6.1: the number at a place; the first that isn't below one; one by one: at every input, without conditions. -/
import Derived.Test.YtlmelcfiegamaaaFanoSmall
namespace Go.Proofs.Ytlmelcfiegamaaa.Fano
open Go.RowKit Go.Proofs.Ytlmelcfiegamaaa.Own Go.Proofs.Ytlmelcfiegamaaa.Rely Go.Proofs.Ytlmelcfiegamaaa.Bits
attribute [local go_sem] max_ints min_ints

theorem nil_fields : lastN [] = 0 ∧ lowF [] = 0 ∧ lowsF [] = [] ∧ highF [] = [] := ⟨rfl, rfl, rfl, rfl⟩
/-- Of, on any numbers that don't fall. -/
theorem of_any (A : Option Addr) (c : Nat) (l : List Int) (w : World) (hr : Reads w .u32 A l) (hl : l.length ≤ 4096) (hu : U32s l) (hnf : NF l) :
    Calls Try.prog 17 #[.slice A l.length c] w fun e w' => ∃ A1 c1 A2 c2, e = .returned (.tuple #[rowV l A1 A2 c1 c2, .int .i64 0]) ∧ Lies w' l A1 A2 c1 c2 ∧ Ext w w' := by
  by_cases h0 : 0 < l.length
  · refine (of_nf A c l w hr hl h0 hu hnf).mono ?_
    rintro e w' ⟨A1, c1, A2, c2, S', rfl, ⟨S1, S2, h1, h2, d, hiff⟩, hst⟩
    exact ⟨A1, c1, A2, c2, rfl, ⟨hnf, hu, hl, row_reads h1, row_reads h2⟩, below_of hst⟩
  · obtain rfl : l = [] := List.eq_nil_of_length_eq_zero (by omega)
    refine (of_nil A c w).mono ?_
    rintro e w' ⟨rfl, hx⟩
    exact ⟨none, 0, none, 0, rfl, ⟨hnf, hu, hl, fun i hi => absurd hi (Nat.not_lt_zero i), fun i hi => absurd hi (Nat.not_lt_zero i)⟩, hx⟩
theorem next_nil (w : World) : Calls Try.prog 28 #[.pointer none] w fun e w' => e = .returned (.tuple #[.int .u32 0, .bool false]) ∧ Ext w w' := by
  go_enter Try.func28, Try.ntmps28
  go_wp2_with fail
  go_quiet (fail)
  go_wp2_with fail
  go_ret2
  exact ⟨rfl, Wire.ext_drewN w _⟩
theorem val_at {l : List Int} (hu : U32s l) {k : Nat} (hk : k < l.length) : l.getD k 0 = (val l k : Int) := by
  have := hu.at hk; unfold val; omega

set_option maxHeartbeats 16000000 in
set_option maxRecDepth 20000 in
theorem finds_wf (A : Option Addr) (c : Nat) (gaps : List Int) (B : Option Addr) (d : Nat) (far : List Int) (i near least : Int) (w : World) (h : ArgI w .u16 A c gaps) (h' : ArgI w .u32 B d far)
    (hi : (Lit.int .i64 i).wf = true) (hn : (Lit.int .u8 near).wf = true) (hm : (Lit.int .u32 least).wf = true) :
    Calls Try.prog 6 #[.slice A gaps.length c, .slice B far.length d, .int .i64 i, .int .u8 near, .int .u32 least] w fun e w' => e = .returned (.bool true) ∧ Below w.heap.size w w' := by
  have HA := Lib.hid h.reads
  have HB := Lib.hid h'.reads
  have HUA := Lib.hid (show ∀ x ∈ gaps, 0 ≤ x ∧ x ≤ 65535 from fun x hx => wf_u16 (h.rng x hx))
  have HUB := Lib.hid (show ∀ x ∈ far, 0 ≤ x ∧ x ≤ 4294967295 from fun x hx => wf_u32 (h'.rng x hx))
  have HFL := Lib.hid (show far.length ≤ 9223372036854775807 from Nat.le_trans h'.le h'.cap)
  have hi2 := wf_i64 hi
  have hn2 := wf_u8 hn
  have hm2 := wf_u32 hm
  obtain ⟨ne, rfl⟩ : ∃ m : Nat, near = (m : Int) := ⟨near.toNat, by omega⟩
  obtain ⟨le, rfl⟩ : ∃ m : Nat, least = (m : Int) := ⟨least.toNat, by omega⟩
  have ht1 : Int.tmod (ne : Int) 70 = ((ne % 70 : Nat) : Int) := by rw [Int.tmod_eq_emod_of_nonneg (by omega)]; rfl
  have ht2 : Int.tmod (le : Int) 3000 = ((le % 3000 : Nat) : Int) := by rw [Int.tmod_eq_emod_of_nonneg (by omega)]; rfl
  obtain ⟨n70, e70, b70⟩ : ∃ m, ne % 70 = m ∧ m < 70 := ⟨_, rfl, Nat.mod_lt _ (by omega)⟩
  obtain ⟨l3, e3, b3⟩ : ∃ m, le % 3000 = m ∧ m < 3000 := ⟨_, rfl, Nat.mod_lt _ (by omega)⟩
  rw [e70] at ht1
  rw [e3] at ht2
  clear h h' hi hn hm e70 e3
  go_enter Try.func6, Try.ntmps6
  go_wp2_with fail
  refine (awake6 w).mono ?_
  rintro e w1 ⟨rfl, hb1⟩
  have HX1 := Lib.hid (show Ext w w1 from hb1)
  clear hb1
  by_cases hla : 60 < gaps.length
  · have g1 : decide ((60 : Int) < (gaps.length : Int)) = true := by simp <;> omega
    go_wp2_with fail
    go_ret
    exact ⟨rfl, HX1.out⟩
  have g1 : decide ((60 : Int) < (gaps.length : Int)) = false := by simp <;> omega
  have hga : gaps.length ≤ 60 := by omega
  go_wp2_with fail
  refine (slow_c A B c d gaps far w1 (HX1.out.reads HA.out) (HX1.out.reads HB.out) (by omega) HFL.out HUA.out HUB.out).mono ?_
  rintro e w2 ⟨A2, c2, S2, rfl, hrow, hst⟩
  have hll : (slowL gaps far).length ≤ 60 := Nat.le_trans (slowG_len far gaps 0 0) hga
  have HN := Lib.hid (slowG_nf far gaps 0 0)
  have HU := Lib.hid (slowG_u32 far gaps 0 0)
  have HR := Lib.hid (row_reads hrow)
  have HX2 := Lib.hid (Ext.trans _ _ _ HX1.out (show Ext w1 w2 from below_of hst))
  clear hrow hst HX1 HA HB HUA HUB
  change RowKit.Hid (NF (slowL gaps far)) at HN
  change RowKit.Hid (U32s (slowL gaps far)) at HU
  generalize slowL gaps far = l at hll HN HU HR ⊢
  go_wp2_with fail
  refine (of_any A2 c2 l w2 HR.out (by omega) HU.out HN.out).mono ?_
  rintro e w3 ⟨A3, c3, A4, c4, rfl, hL, hx⟩
  have hx4 : Ext w3 (w3.alloc (.cells #[.int .i64 l.length, .int .u32 (lastN l), .int .i64 (lowF l), .slice A3 (lowsF l).length c3, .slice A4 (highF l).length c4] 29)) := (Below.refl _ _).alloc (Nat.le_refl _) _
  have hbk := heap_alloc_new w3 (.cells #[.int .i64 l.length, .int .u32 (lastN l), .int .i64 (lowF l), .slice A3 (lowsF l).length c3, .slice A4 (highF l).length c4] 29)
  have HL := Lib.hid (lies_later hL hx4)
  have k0 := bl_cell hbk 0
  have k1 := bl_cell hbk 1
  have k2 := bl_cell hbk 2
  have k3 := bl_cell hbk 3
  have k4 := bl_cell hbk 4
  simp only [List.getElem?_toArray, List.getElem?_cons_zero, List.getElem?_cons_succ] at k0 k1 k2 k3 k4
  have HR4 := Lib.hid ((Ext.trans _ _ _ hx hx4).reads HR.out)
  have HX4 := Lib.hid (Ext.trans _ _ _ HX2.out (Ext.trans _ _ _ hx hx4))
  clear hbk hL hx hx4 HX2 HR
  unfold rowV
  go_wp2_with fail
  have hsz := size_al w3 (.cells #[.int .i64 l.length, .int .u32 (lastN l), .int .i64 (lowF l), .slice A3 (lowsF l).length c3, .slice A4 (highF l).length c4] 29)
  generalize w3.alloc (.cells #[.int .i64 l.length, .int .u32 (lastN l), .int .i64 (lowF l), .slice A3 (lowsF l).length c3, .slice A4 (highF l).length c4] 29) = w4 at k0 k1 k2 k3 k4 HL HR4 HX4 hsz ⊢
  generalize w3.heap.size = px at k0 k1 k2 k3 k4 hsz ⊢
  have hx5 : Ext w4 (w4.alloc (.cells #[.int .i64 i, .int .i64 n70] 3)) := (Below.refl _ _).alloc (Nat.le_refl _) _
  have hbk := heap_alloc_new w4 (.cells #[.int .i64 i, .int .i64 n70] 3)
  rw [hsz] at hbk
  have q0 := bl_cell hbk 0
  have q1 := bl_cell hbk 1
  simp only [List.getElem?_toArray, List.getElem?_cons_zero, List.getElem?_cons_succ] at q0 q1
  have HEL : RowKit.Hid (∀ j : Nat, j < 2 → ∃ x : Int, (w4.alloc (.cells #[.int .i64 i, .int .i64 n70] 3)).cell? ⟨px + 1, j, none⟩ = some (.int .i64 x) ∧ -9223372036854775808 ≤ x ∧ x ≤ 9223372036854775807) := Lib.hid (by
    intro j hj
    match j, hj with
    | 0, _ => exact ⟨i, q0, hi2⟩
    | 1, _ => exact ⟨n70, q1, by omega, by omega⟩)
  have HX5 := Lib.hid (Ext.trans _ _ _ HX4.out hx5)
  have HL5 := Lib.hid (lies_later HL.out hx5)
  have HR5 := Lib.hid (hx5.reads HR4.out)
  replace k0 := hx5.cell k0
  replace k1 := hx5.cell k1
  replace k2 := hx5.cell k2
  replace k3 := hx5.cell k3
  replace k4 := hx5.cell k4
  clear hx5 hbk q0 q1 HX4 HL HR4 hi2 hn2 ht1 b70
  generalize w4.alloc (.cells #[.int .i64 i, .int .i64 n70] 3) = w5 at k0 k1 k2 k3 k4 HL5 HR5 HX5 HEL ⊢
  clear hsz
  go_loopw [55] (fun v wr => ∃ j : Nat, j ≤ 2 ∧ v = .int .i64 j ∧ Ext w5 wr) (fun v _ => 2 - (intOf v).toNat)
  case atStart => exact ⟨0, by omega, rfl, Ext.refl _⟩
  case round =>
    obtain ⟨j, hj, rfl, hxr⟩ := hrel
    have XR := Lib.hid hxr
    clear hxr
    have m0 := XR.out.cell k0
    have m1 := XR.out.cell k1
    have m2 := XR.out.cell k2
    have m3 := XR.out.cell k3
    have m4 := XR.out.cell k4
    by_cases hj2 : j < 2
    · have hj4 : decide ((j : Int) < 2) = true := by simp; omega
      obtain ⟨x, cx, hxb⟩ := HEL.out j hj2
      replace cx := XR.out.cell cx
      have HS := Lib.hid (select_c (lies_later HL5.out XR.out) x hxb)
      by_cases hx : 0 ≤ x ∧ x < l.length
      · obtain ⟨X, rfl⟩ : ∃ X : Nat, x = (X : Int) := ⟨x.toNat, by omega⟩
        have hX : X < l.length := by omega
        have hse : selV l (X : Int) = .tuple #[.int .u32 (val l X), .bool true] := by unfold selV; rw [if_pos hx]; rfl
        rw [hse] at HS
        have HRX := Lib.hid (HR5.out)
        go_wp2_with fail
        refine HS.out.mono ?_
        rintro e w6 ⟨rfl, hx6⟩
        have X6 := Lib.hid (Ext.trans _ _ _ XR.out hx6)
        obtain ⟨b, o, rfl, _, cl⟩ := (X6.out.reads HR5.out) X hX
        rw [val_at HU.out hX] at cl
        clear m0 m1 m2 m3 m4 cx hx6 HS hse
        generalize val l X = V at cl ⊢
        have d1 : decide ((0 : Int) ≤ (X : Int)) = true := by simp
        have d2 : decide ((X : Int) < (l.length : Int)) = true := by simp; omega
        go_wp2_with fail
        exact ⟨⟨j + 1, by omega, by go_num, X6.out⟩, by simp [intOf]; omega⟩
      · have hse : selV l x = .tuple #[.int .u32 0, .bool false] := by unfold selV; rw [if_neg hx]
        rw [hse] at HS
        go_wp2_with fail
        refine HS.out.mono ?_
        rintro e w6 ⟨rfl, hx6⟩
        have X6 := Lib.hid (Ext.trans _ _ _ XR.out hx6)
        clear m0 m1 m2 m3 m4 cx hx6 HS hse
        by_cases hx0 : 0 ≤ x
        · have d1 : decide (0 ≤ x) = true := by simpa using hx0
          have d2 : decide (x < (l.length : Int)) = false := by simp; omega
          go_wp2_with fail
          exact ⟨⟨j + 1, by omega, by go_num, X6.out⟩, by simp [intOf]; omega⟩
        · have d1 : decide (0 ≤ x) = false := by simpa using hx0
          go_wp2_with fail
          exact ⟨⟨j + 1, by omega, by go_num, X6.out⟩, by simp [intOf]; omega⟩
    · obtain rfl : j = 2 := by omega
      have HX6 := Lib.hid (Ext.trans _ _ _ HX5.out XR.out)
      have HL6 := Lib.hid (lies_later HL5.out XR.out)
      have HR6 := Lib.hid (XR.out.reads HR5.out)
      clear HEL HX5 HL5 HR5 XR k0 k1 k2 k3 k4
      go_wp2_with fail
      rename_i K0 hK0 K1 hK1
      clear hK0
      have hx7 : Ext wr (wr.alloc (.cells #[.int .u32 le, .int .u32 l3] 26)) := (Below.refl _ _).alloc (Nat.le_refl _) _
      have hbk := heap_alloc_new wr (.cells #[.int .u32 le, .int .u32 l3] 26)
      have q0 := bl_cell hbk 0
      have q1 := bl_cell hbk 1
      simp only [List.getElem?_toArray, List.getElem?_cons_zero, List.getElem?_cons_succ] at q0 q1
      have HEL : RowKit.Hid (∀ j : Nat, j < 2 → ∃ x : Nat, (wr.alloc (.cells #[.int .u32 le, .int .u32 l3] 26)).cell? ⟨wr.heap.size, j, none⟩ = some (.int .u32 x)) := Lib.hid (by
        intro j hj
        match j, hj with
        | 0, _ => exact ⟨le, q0⟩
        | 1, _ => exact ⟨l3, q1⟩)
      have HX7 := Lib.hid (Ext.trans _ _ _ HX6.out hx7)
      have HL7 := Lib.hid (lies_later HL6.out hx7)
      have HR7 := Lib.hid (hx7.reads HR6.out)
      have k0 := hx7.cell m0
      have k1 := hx7.cell m1
      have k2 := hx7.cell m2
      have k3 := hx7.cell m3
      have k4 := hx7.cell m4
      clear hx7 hbk q0 q1 HX6 HL6 HR6 m0 m1 m2 m3 m4 ht2 b3
      generalize wr.alloc (.cells #[.int .u32 le, .int .u32 l3] 26) = w7 at k0 k1 k2 k3 k4 HL7 HR7 HX7 HEL ⊢
      generalize wr.heap.size = pb at HEL ⊢
      go_loopw [100] (fun v w8 => ∃ j : Nat, j ≤ 2 ∧ v = .int .i64 j ∧ Ext w7 w8) (fun v _ => 2 - (intOf v).toNat)
      case atStart => exact ⟨0, by omega, rfl, Ext.refl _⟩
      case round =>
        obtain ⟨j, hj, rfl, hxr⟩ := hrel
        have XR := Lib.hid hxr
        clear hxr
        by_cases hj2 : j < 2
        · have hj4 : decide ((j : Int) < 2) = true := by simp; omega
          obtain ⟨x, cx⟩ := HEL.out j hj2
          replace cx := XR.out.cell cx
          have m0 := XR.out.cell k0
          have m1 := XR.out.cell k1
          have m2 := XR.out.cell k2
          have m3 := XR.out.cell k3
          have m4 := XR.out.cell k4
          have HSP := Lib.hid (fromN_spec l (x : Int))
          have HS := Lib.hid (from_c (lies_later HL7.out XR.out) (x : Int))
          have HRR := Lib.hid (XR.out.reads HR7.out)
          have hfl := HSP.out.1
          obtain ⟨F, hF⟩ : ∃ F, fromN l (x : Int) = F := ⟨_, rfl⟩
          have HFV := Lib.hid (show fromV l (x : Int) = if F < l.length then .tuple #[.int .u32 (val l F), .int .i64 F, .bool true] else .tuple #[.int .u32 0, .int .i64 0, .bool false] by unfold fromV; rw [hF])
          rw [hF] at HSP hfl
          clear hF
          go_wp2_with fail
          go_loopw [20] (fun v w9 => ∃ k : Nat, k ≤ F ∧ v = .int .i64 k ∧ w9 = wr) (fun v _ => F - (intOf v).toNat)
          case atStart => exact ⟨0, by omega, rfl, rfl⟩
          case round =>
            obtain ⟨k, hk, rfl, rfl⟩ := hrel
            by_cases hkF : k < F
            · have hkl : k < l.length := by omega
              have hkl4 : decide ((k : Int) < (l.length : Int)) = true := by simp; omega
              obtain ⟨b, o, rfl, _, cl⟩ := HRR.out k hkl
              rw [val_at HU.out hkl] at cl
              have hlt := HSP.out.2.1 k hkF
              have d2 : decide (val l k < x) = true := by simp; omega
              clear hlt m0 m1 m2 m3 m4
              generalize val l k = V at cl d2
              go_wp2_with fail
              exact ⟨⟨k + 1, by omega, by go_num, trivial⟩, by simp [intOf]; omega⟩
            · obtain rfl : k = F := by omega
              by_cases hkl : k < l.length
              · have hkl4 : decide ((k : Int) < (l.length : Int)) = true := by simp; omega
                obtain ⟨b, o, rfl, _, cl⟩ := HRR.out k hkl
                rw [val_at HU.out hkl] at cl
                have hle := HSP.out.2.2 hkl
                have d2 : decide (val l k < x) = false := by simp; omega
                have HV2 := Lib.hid HFV.out
                rw [if_pos hkl] at HV2
                rw [HV2.out] at HS
                clear hle HFV HV2 HSP
                generalize val l k = V at cl d2 HS
                go_wp2_with fail
                refine HS.out.mono ?_
                rintro e w9 ⟨rfl, hx9⟩
                have X9 := Lib.hid (Ext.trans _ _ _ XR.out hx9)
                replace cl := hx9.cell cl
                clear m0 m1 m2 m3 m4 cx hx9 HS
                go_wp2_with fail
                refine ⟨?_, by simp [intOf]; omega⟩
                repeat' apply Exists.intro
                any_goals refine ⟨⟨j + 1, by omega, by go_num, X9.out⟩, rfl⟩
                all_goals exact .bool false
              · have hkl4 : decide ((k : Int) < (l.length : Int)) = false := by simp; omega
                have HV2 := Lib.hid HFV.out
                rw [if_neg hkl] at HV2
                rw [HV2.out] at HS
                clear HFV HV2 HSP
                go_wp2_with fail
                refine HS.out.mono ?_
                rintro e w9 ⟨rfl, hx9⟩
                have X9 := Lib.hid (Ext.trans _ _ _ XR.out hx9)
                clear m0 m1 m2 m3 m4 cx hx9 HS
                go_wp2_with fail
                refine ⟨?_, by simp [intOf]; omega⟩
                repeat' apply Exists.intro
                any_goals refine ⟨⟨j + 1, by omega, by go_num, X9.out⟩, rfl⟩
                all_goals exact .bool false
        · obtain rfl : j = 2 := by omega
          have HX8 := Lib.hid (Ext.trans _ _ _ HX7.out XR.out)
          have HL8 := Lib.hid (lies_later HL7.out XR.out)
          have HR8 := Lib.hid (XR.out.reads HR7.out)
          have m0 := XR.out.cell k0
          have m1 := XR.out.cell k1
          have m2 := XR.out.cell k2
          have m3 := XR.out.cell k3
          have m4 := XR.out.cell k4
          clear HEL HX7 HL7 HR7 XR k0 k1 k2 k3 k4
          go_wp2_with fail
          rename_i K2 hK2 K3 hK3 K4 hK4
          clear hK2
          refine (cursor_c (l := l) (A1 := A3) (A2 := A4) (c1 := c3) (c2 := c4) _).mono ?_
          rintro e w9 ⟨p, p1, p2, rfl, hF, hC⟩
          have HF := Lib.hid hF
          have HC := Lib.hid (curI0 hC)
          clear hF hC m0 m1 m2 m3 m4
          go_wp2_with fail
          go_loopw [164] (fun v wx => ∃ j : Nat, j ≤ l.length ∧ v = .int .i64 j ∧ CurI wr l A3 A4 c3 c4 p p1 p2 j wx) (fun v _ => l.length - (intOf v).toNat)
          case atStart => exact ⟨0, by omega, rfl, HC.out⟩
          case round =>
            obtain ⟨j, hj, rfl, hcur⟩ := hrel
            have HCU := Lib.hid hcur
            clear hcur
            by_cases hlt : j < l.length
            · have hj4 : (j : Int) < (l.length : Int) := by omega
              obtain ⟨b, o, rfl, _, cl⟩ := (HCU.out.ext.reads HR8.out) j hlt
              rw [val_at HU.out hlt] at cl
              have HS := Lib.hid (next_c HL8.out HF.out HCU.out hlt)
              generalize val l j = V at cl HS
              go_wp2_with fail
              refine HS.out.mono ?_
              rintro e wy ⟨rfl, hcy⟩
              have HCY := Lib.hid hcy
              clear hcy HS
              go_wp2_with fail
              exact ⟨⟨j + 1, by omega, by go_num, HCY.out⟩, by simp [intOf]; omega⟩
            · obtain rfl : j = l.length := by omega
              go_wp2_with fail
              refine (next_end HL8.out.le HCU.out).mono ?_
              rintro e wy ⟨rfl, hcy⟩
              have HCY := Lib.hid hcy.ext
              clear hcy
              go_wp2_with fail
              refine (next_nil _).mono ?_
              rintro e wz ⟨rfl, hxz⟩
              have HXZ := Lib.hid (Ext.trans _ _ _ HX8.out (Ext.trans _ _ _ HCY.out hxz))
              clear hxz
              go_wp2_with fail
              go_ret
              exact ⟨rfl, HXZ.out⟩
end Go.Proofs.Ytlmelcfiegamaaa.Fano
