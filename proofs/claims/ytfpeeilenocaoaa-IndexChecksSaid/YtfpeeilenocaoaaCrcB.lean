/- Sums of 32 bits: the document's walk; bytes with their sum. -/
import Derived.Test.YtfpeeilenocaoaaCrc
import Derived.Test.YtfpeeilenocaoaaCrcRef
import Derived.Test.YtfpeeilenocaoaaZeros
import Derived.Test.YtfpeeilenocaoaaRely
import Derived.BigRegion
import Derived.Deep.DeepCutAuto
import Derived.Deep.CutBlock
namespace Go.Proofs.Ytfpeeilenocaoaa.Crc
open Go.RowKit Go.Proofs.Ytfpeeilenocaoaa.Own Go.Proofs.Ytfpeeilenocaoaa.Rely

theorem info_u8 : (Try.prog.info? 5).map (fun i => (i.zero, i.size, i.bytes)) = some (some (.int .u8 0), 1, 1) := by kernel_rfl
theorem info_int : (Try.prog.info? 3).map (fun i => (i.zero, i.size, i.bytes)) = some (some (.int .i64 0), 1, 8) := by kernel_rfl

/-- The terms' cells. -/
def tcs : Array Value := (terms.map fun (t : Nat) => Value.int .i64 (t : Int)).toArray
theorem tcs_lit : tcs = #[.int .i64 0, .int .i64 4, .int .i64 5, .int .i64 6, .int .i64 7, .int .i64 9, .int .i64 10, .int .i64 12, .int .i64 13, .int .i64 14, .int .i64 18, .int .i64 19, .int .i64 21, .int .i64 22, .int .i64 23, .int .i64 24, .int .i64 26, .int .i64 32] := rfl
theorem tcs_get {k : Nat} (h : k < terms.length) : tcs[k]? = some (.int .i64 ((terms.getD k 0 : Nat) : Int)) := by
  simp [tcs, List.getD_eq_getElem?_getD, h]
/-- The row of bits, as it stands. -/
def Bits (w : World) (L : List Int) (v : Value) (wr : World) : Prop := ∃ A' c' S, v = .slice A' L.length c' ∧ Sep (Row 5 .u8 (.slice A' L.length c') L) Emp wr S ∧ Step (fun _ => False) S w wr

set_option maxHeartbeats 4000000 in
set_option maxRecDepth 20000 in
theorem refsum_calls (w : World) (A : Option Addr) (c : Nat) (xs : List Int) (hr : Reads w .u8 A xs) (hb : IsBytes xs) (hl : xs.length ≤ 1000000) :
    Calls Try.prog 41 #[.slice A xs.length c] w fun e w' => e = .returned (.int .u32 ((sum xs).toNat : Int)) ∧ Below w.heap.size w w' := by
  have HR := Lib.hid hr
  have HB := Lib.hid hb
  have B0 : Bits w [] (.slice none 0 0) w := ⟨none, 0, fun _ => False, rfl, (Row.nil _ _ w).sepEmp, Step.refl _ _⟩
  have H0 := Lib.hid B0
  clear hr hb B0
  go_enter Try.func41, Try.ntmps41
  go_wp2_with fail
  go_loopw [3, 4] (fun v i wr => ∃ (k : Nat) (L : List Int), k ≤ xs.length ∧ i = .int .i64 k ∧ L = bitsOf (xs.take k) ∧ Bits w L v wr) (fun _ i _ => xs.length - (intOf i).toNat)
  case atStart => exact ⟨0, [], by omega, rfl, rfl, H0.out⟩
  case round =>
    obtain ⟨k, L, hk, rfl, hL, A1, c1, S, rfl, h, st⟩ := hrel
    have H := Lib.hid h
    have ST := Lib.hid st
    have HL := Lib.hid hL
    clear h st hL
    by_cases hlt : k < xs.length
    · go_wp2_with fail
      go_loopw [3, 5] (fun v j wr => ∃ (m : Nat) (L : List Int), m ≤ 8 ∧ j = .int .i64 m ∧ L = bitsOf (xs.take k) ++ bits8 (xs.getD k 0) m ∧ Bits w L v wr) (fun _ j _ => 8 - (intOf j).toNat)
      case atStart => exact ⟨0, L, by omega, rfl, by rw [HL.out]; simp [bits8], A1, c1, S, rfl, H.out, ST.out⟩
      case round =>
        clear HL H ST
        obtain ⟨m, L', hm, rfl, hL, A2, c2, S2, rfl, h, st⟩ := hrel
        have H := Lib.hid h
        have ST := Lib.hid st
        have HL := Lib.hid hL
        by_cases h8 : m < 8
        · obtain ⟨b, o, rfl, hblt, hc⟩ := (HR.out.later (step_below st)).at hlt
          obtain ⟨z, hz⟩ : ∃ z, xs.getD k 0 = z := ⟨_, rfl⟩
          rw [hz] at hc
          have hz0 : 0 ≤ z ∧ z ≤ 255 := by rw [← hz]; exact HB.out _ (by simp [List.getD_eq_getElem?_getD, List.getElem?_eq_getElem hlt])
          have hpos : 0 ≤ z / 2 ^ m := Int.ediv_nonneg hz0.1 (Int.le_of_lt (Int.pow_pos (by decide)))
          obtain ⟨y, hy⟩ : ∃ y, z / 2 ^ m % 2 = y := ⟨_, rfl⟩
          have ht : (z / 2 ^ m).tmod 2 = y := by rw [Int.tmod_eq_emod_of_nonneg hpos]; exact hy
          have hlen : L'.length ≤ 9000000 := by
            rw [hL, List.length_append, bitsOf_len]
            simp only [List.length_take, bits8, List.length_map, List.length_range]; omega
          have HY := Lib.hid (show L' ++ [y] = bitsOf (xs.take k) ++ bits8 (xs.getD k 0) (m + 1) by
            rw [hL, hz, ← hy]; unfold bits8; rw [List.range_succ, List.map_append, List.append_assoc]; rfl)
          have HZ := Lib.hid hz
          have HLEN := Lib.hid hlen
          clear h st hL hz hy hz0 hpos hlen
          go_wp2_with (at_builtin; refine append_lit _ 5 rfl _ _ 22 rfl .u8 1 Try.underlying22 info_u8 (by decide) _ L' [y] 1 1 rfl rfl rfl rfl Lcl.emp H.out (by have := HLEN.out; simp; omega) ?_; intro A' c' w' S' h' st'; have H' := Lib.hid h'; have ST' := Lib.hid st'; clear h' st')
          go_roundw
          case rel => exact ⟨m + 1, L' ++ [y], by omega, rfl, HY.out, A', c', S', by rw [List.length_append]; rfl, by rw [List.length_append]; exact H'.out, ST.out.trans ST'.out⟩
          case measure => simp [intOf]; omega
        · obtain rfl : m = 8 := by omega
          have htk : bitsOf (xs.take (k + 1)) = bitsOf (xs.take k) ++ bits8 (xs.getD k 0) 8 := by
            rw [List.take_add_one, List.getElem?_eq_getElem hlt]
            unfold bitsOf
            rw [List.flatMap_append, List.getD_eq_getElem?_getD, List.getElem?_eq_getElem hlt]
            simp
          have HY := Lib.hid (show L' = bitsOf (xs.take (k + 1)) by rw [htk, hL])
          clear h st hL htk
          go_wp2_with fail
          go_roundw
          case rel => exact ⟨k + 1, L', by omega, rfl, HY.out, A2, c2, S2, rfl, H.out, ST.out⟩
          case measure => simp [intOf]; omega
    · obtain rfl : k = xs.length := by omega
      have HY := Lib.hid (show L = bitsOf xs by rw [HL.out, List.take_length])
      have HLEN := Lib.hid (show L.length = 8 * xs.length by rw [HY.out, bitsOf_len])
      clear HL
      go_wp2_with (at_builtin; refine append_zeros _ rfl _ 22 3 32 rfl 5 .u8 .i64 1 Try.underlying22 Try.underlying3 info_u8 (by decide) _ L rfl Lcl.emp H.out (by have := HLEN.out; omega) ?_; intro A' c' w' S' h' st'; have H' := Lib.hid h'; have ST' := Lib.hid (ST.out.trans st'); clear h' st')
      obtain ⟨L0, hL0⟩ : ∃ L0, L ++ List.replicate 32 0 = L0 := ⟨_, rfl⟩
      have hM : L.length + 32 = L0.length := by rw [← hL0, List.length_append, List.length_replicate]
      have hMl : L0.length = 8 * xs.length + 32 := by rw [← hM, HLEN.out]
      have h1 := H'.out
      rw [hL0] at h1
      rw [hM] at h1 ⊢
      obtain ⟨T1, hT1, _⟩ := h1.left
      obtain ⟨g, cap, e, _, _⟩ := hT1.form (by omega)
      injection e with e1 e2 e3
      subst e1 e3
      have BL := Lib.hid (show Bin L0 by rw [← hL0, HY.out]; exact bits_bin xs 32)
      have HQ := Lib.hid (show L0 = bitsOf xs ++ List.replicate 32 0 by rw [← hL0, HY.out])
      have H1 := Lib.hid h1
      have HM := Lib.hid hMl
      have hM32 : 32 ≤ L0.length := by omega
      have hMu : L0.length ≤ 9000000 := by omega
      clear H H' HLEN HY ST h1 hT1 hL0 hM hMl
      go_loopw [6] (fun i wr => ∃ (k : Nat) (S : Nat → Prop), k ≤ 32 ∧ i = .int .i64 k ∧ Sep (Row 5 .u8 (.slice (some ⟨g, 0, none⟩) L0.length c') (turnN k L0)) Emp wr S ∧ Step (fun _ => False) S w wr) (fun i _ => 32 - (intOf i).toNat)
      case atStart => exact ⟨0, S', by omega, rfl, H1.out, ST'.out⟩
      case round =>
        clear H1 ST'
        obtain ⟨k, S1, hk32, rfl, h, st⟩ := hrel
        have H := Lib.hid h
        have ST := Lib.hid st
        by_cases hlt2 : k < 32
        · obtain ⟨T1, hT1, _⟩ := h.left
          have f0 := hT1.free k
          have c0 := hT1.cell (i := k) (by rw [turnN_len]; omega)
          have hb := (BL.out.turnN k).at k
          obtain ⟨z, hz⟩ : ∃ z, (turnN k L0).getD k 0 = z := ⟨_, rfl⟩
          rw [hz] at c0 hb
          have hw : (1 - z) % 256 = 1 - z := by omega
          have hs := sepSet Lcl.emp h k (1 - z)
          have hf : (turnN k L0).set k (1 - z) = turnN (k + 1) L0 := by rw [turnN, flip, hz]
          rw [hf] at hs
          have HS := Lib.hid hs
          clear h st hT1 hz hf hs hb
          go_wp2_with fail
          go_roundw
          case rel => exact ⟨k + 1, S1, by omega, rfl, HS.out.1, ST.out.trans HS.out.2⟩
          case measure => simp [intOf]; omega
        · obtain rfl : k = 32 := by omega
          obtain ⟨L1, hL1⟩ : ∃ L1, turnN 32 L0 = L1 := ⟨_, rfl⟩
          have HLN := Lib.hid (show L0.length = L1.length by rw [← hL1, turnN_len])
          have hlen := Nat.le_of_eq HLN.out
          rw [hL1] at h
          have ha := Sep.alloc ((Lcl.row _ _ _ _).sep Lcl.emp) h tcs 3
          obtain ⟨q, hq⟩ : ∃ q, wr.heap.size = q := ⟨_, rfl⟩
          rw [hq] at ha
          have HA := Lib.hid (show Sep (Row 5 .u8 (.slice (some ⟨g, 0, none⟩) L0.length c') L1) (Blk q tcs 3) (wr.alloc (.cells #[.int .i64 0, .int .i64 4, .int .i64 5, .int .i64 6, .int .i64 7, .int .i64 9, .int .i64 10, .int .i64 12, .int .i64 13, .int .i64 14, .int .i64 18, .int .i64 19, .int .i64 21, .int .i64 22, .int .i64 23, .int .i64 24, .int .i64 26, .int .i64 32] 3)) _ from ha.1.assoc'.left_of_emp.comm)
          have STA := Lib.hid (show Step (fun _ => False) _ w (wr.alloc (.cells #[.int .i64 0, .int .i64 4, .int .i64 5, .int .i64 6, .int .i64 7, .int .i64 9, .int .i64 10, .int .i64 12, .int .i64 13, .int .i64 14, .int .i64 18, .int .i64 19, .int .i64 21, .int .i64 22, .int .i64 23, .int .i64 24, .int .i64 26, .int .i64 32] 3)) from st.trans ha.2)
          have BL1 := Lib.hid (show Bin L1 by rw [← hL1]; exact BL.out.turnN 32)
          have HQ1 := Lib.hid (show L1 = turnN 32 (bitsOf xs ++ List.replicate 32 0) by rw [← hL1, HQ.out])
          clear H ST h st ha hL1 BL
          go_wp2_with fail
          go_loopw [8] (fun v wr => ∃ (i : Nat) (S : Nat → Prop), i + 32 ≤ L0.length ∧ v = .int .i64 i ∧ Sep (Row 5 .u8 (.slice (some ⟨g, 0, none⟩) L0.length c') (divN i L1)) (Blk q tcs 3) wr S ∧ Step (fun _ => False) S w wr) (fun v _ => L0.length - (intOf v).toNat)
          case atStart => exact ⟨0, _, by omega, rfl, HA.out, STA.out⟩
          case round =>
            clear HA STA hq
            obtain ⟨i, S2, hi32, rfl, h, st⟩ := hrel
            have H := Lib.hid h
            have ST := Lib.hid st
            by_cases hlt4 : i + 32 < L0.length
            · obtain ⟨T1, hT1, _⟩ := h.left
              have c0 := hT1.cell (i := i) (by rw [divN_len]; omega)
              rcases (BL1.out.divN i).at i with hz | hz
              · have HZ := Lib.hid (show divN (i + 1) L1 = divN i L1 by rw [divN, hz]; rfl)
                rw [hz] at c0
                clear h st hT1 hz
                go_wp2_with fail
                go_roundw
                case rel => exact ⟨i + 1, S2, by omega, rfl, by rw [HZ.out]; exact H.out, ST.out⟩
                case measure => simp [intOf]; omega
              · have HZ := Lib.hid (show divN (i + 1) L1 = flips i terms (divN i L1) by rw [divN, hz]; rfl)
                rw [hz] at c0
                clear h st hT1 hz
                go_wp2_with fail
                go_loopw [9] (fun v wr => ∃ (k : Nat) (S : Nat → Prop), k ≤ 18 ∧ v = .int .i64 k ∧ Sep (Row 5 .u8 (.slice (some ⟨g, 0, none⟩) L0.length c') (flips i (terms.take k) (divN i L1))) (Blk q tcs 3) wr S ∧ Step (fun _ => False) S w wr) (fun v _ => 18 - (intOf v).toNat)
                case atStart => exact ⟨0, S2, by omega, rfl, H.out, ST.out⟩
                case round =>
                  clear H ST c0
                  obtain ⟨k, S3, hk18, rfl, h, st⟩ := hrel
                  have H := Lib.hid h
                  have ST := Lib.hid st
                  by_cases hlt5 : k < 18
                  · obtain ⟨t, ht⟩ : ∃ t, terms.getD k 0 = t := ⟨_, rfl⟩
                    have htl : t ≤ 32 := by rw [← ht, List.getD_eq_getElem?_getD, List.getElem?_eq_getElem (show k < terms.length from hlt5)]; exact terms_le _ (List.getElem_mem _)
                    obtain ⟨T1, hT1, _⟩ := h.left
                    obtain ⟨T2, hT2, _⟩ := h.comm.left
                    have ct := (hT2.cell k).trans (tcs_get hlt5)
                    rw [ht] at ct
                    have f0 := hT1.free (i + t)
                    have c0 := hT1.cell (i := i + t) (by rw [flips_len, divN_len]; omega)
                    have hb := ((BL1.out.divN i).flips i (terms.take k)).at (i + t)
                    obtain ⟨z, hz⟩ : ∃ z, (flips i (terms.take k) (divN i L1)).getD (i + t) 0 = z := ⟨_, rfl⟩
                    rw [hz] at c0 hb
                    have hw : (1 - z) % 256 = 1 - z := by omega
                    have hs := sepSet (Lcl.blk _ _ _) h (i + t) (1 - z)
                    have hf : (flips i (terms.take k) (divN i L1)).set (i + t) (1 - z) = flips i (terms.take (k + 1)) (divN i L1) := by rw [flips_step i k _ hlt5, ht, flip, hz]
                    rw [hf] at hs
                    have HS := Lib.hid (show Sep (Row 5 .u8 (.slice (some ⟨g, 0, none⟩) L0.length c') (flips i (terms.take (k + 1)) (divN i L1))) (Blk q tcs 3) (wr.setCell ⟨g, i + t, none⟩ (.int .u8 (1 - z))).drew S3 ∧ Step (fun _ => False) S3 w (wr.setCell ⟨g, i + t, none⟩ (.int .u8 (1 - z))).drew from
                      ⟨((Lcl.row _ _ _ _).sep (Lcl.blk _ _ _)).drew hs.1, (st.trans hs.2).drew⟩)
                    have hit : i + t < L0.length := by omega
                    clear h st hT1 hT2 hz hf hs hb ht HZ
                    go_wp2_with fail
                    go_big_region
                    go_wp2_with fail
                    go_roundw
                    case rel => exact ⟨k + 1, S3, by omega, rfl, HS.out.1, HS.out.2⟩
                    case measure => simp [intOf]; omega
                  · obtain rfl : k = 18 := by omega
                    have HS := Lib.hid (show Sep (Row 5 .u8 (.slice (some ⟨g, 0, none⟩) L0.length c') (divN (i + 1) L1)) (Blk q tcs 3) wr S3 by rw [HZ.out]; exact h)
                    clear h st HZ
                    go_wp2_with fail
                    go_roundw
                    case rel => exact ⟨i + 1, S3, by omega, rfl, HS.out, ST.out⟩
                    case measure => simp [intOf]; omega
            · have hix : i = 8 * xs.length := by have := HM.out; omega
              obtain ⟨D, hD⟩ : ∃ D, divN i L1 = D := ⟨_, rfl⟩
              rw [hD] at H
              have hDl : D.length = L0.length := by rw [← hD, divN_len, HLN.out]
              have BD := Lib.hid (show Bin D by rw [← hD]; exact BL1.out.divN i)
              have HF := Lib.hid (show collectN D 32 = (sum xs).toNat by rw [← refSum_eq xs HB.out, ← hD, hix, HQ1.out]; rfl)
              have HDL := Lib.hid hDl
              clear h st hix hD hDl BL1 HQ1 HM
              go_wp2_with fail
              go_loopw [10, 11] (fun n v wr => ∃ (k : Nat) (S : Nat → Prop), k ≤ 32 ∧ n = .int .u32 (collectN D k : Nat) ∧ v = .int .i64 ((L0.length : Int) - 1 - (k : Int)) ∧ Sep (Row 5 .u8 (.slice (some ⟨g, 0, none⟩) L0.length c') D) (Blk q tcs 3) wr S ∧ Step (fun _ => False) S w wr) (fun _ v _ => (intOf v + 33 - L0.length).toNat)
              case atStart => exact ⟨0, S2, by omega, rfl, by simp, H.out, ST.out⟩
              case round =>
                clear H ST
                obtain ⟨k, S3, hk3, rfl, rfl, h, st⟩ := hrel
                have H := Lib.hid h
                have ST := Lib.hid st
                by_cases hlt6 : k < 32
                · obtain ⟨T1, hT1, _⟩ := h.left
                  obtain ⟨j, hj⟩ : ∃ j, L0.length - 1 - k = j := ⟨_, rfl⟩
                  have hji : (L0.length : Int) - 1 - (k : Int) = (j : Int) := by omega
                  have hjl : j < L0.length := by omega
                  have hjm : (L0.length : Int) - 32 ≤ (j : Int) := by omega
                  have c0 := hT1.cell (i := j) (by rw [HDL.out]; omega)
                  have hb := BD.out.at j
                  obtain ⟨z, hz⟩ : ∃ z, D.getD j 0 = z := ⟨_, rfl⟩
                  rw [hz] at c0 hb
                  have hw : (1 - z) % 256 = 1 - z := by omega
                  have hw2 : (1 - z) % 4294967296 = 1 - z := by omega
                  have hc1 : collectN D (k + 1) = collectN D k * 2 + (1 - z).toNat := by rw [collectN, HDL.out, hj, hz]
                  have hlt7 := collectN_u32 BD.out (show k + 1 ≤ 32 by omega)
                  have hsum : ((collectN D k : Int) * 2 % 4294967296 + (1 - z)) % 4294967296 = (collectN D (k + 1) : Nat) := by omega
                  have hsum2 : ((collectN D k : Int) * 2 + (1 - z)) % 4294967296 = (collectN D (k + 1) : Nat) := by omega
                  obtain ⟨N1, hN1⟩ : ∃ N, collectN D (k + 1) = N := ⟨_, rfl⟩
                  rw [hN1] at hsum hsum2
                  clear hlt7 hc1 h st hT1 hz hb
                  rw [hji]
                  go_wp2_with fail
                  go_roundw
                  case rel => exact ⟨k + 1, S3, by omega, by rw [hN1]; first | rfl | trivial | exact congrArg (Value.int .u32) hsum | exact congrArg (Value.int .u32) hsum2, by first | (congr 1; omega) | omega, H.out, ST.out⟩
                  case measure => simp [intOf]; omega
                · obtain rfl : k = 32 := by omega
                  rw [HF.out]
                  clear h st
                  go_wp2_with fail
                  go_ret
                  exact ⟨rfl, step_below ST.out⟩

end Go.Proofs.Ytfpeeilenocaoaa.Crc
