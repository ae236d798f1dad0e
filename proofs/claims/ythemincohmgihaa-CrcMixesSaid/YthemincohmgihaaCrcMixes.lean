/- The law CrcMixes: sums of bytes that differ by the same differ by the same. -/
import Derived.Test.YthemincohmgihaaCrc
import Derived.Test.YthemincohmgihaaRely
import Derived.Deep.DeepCutAuto
import Derived.Deep.CutBlock
import Derived.Deep.OwnRows
namespace Go.Proofs.Ythemincohmgihaa.Crc
open Go.RowKit Go.Proofs.Ythemincohmgihaa.Own Go.Proofs.Ythemincohmgihaa.Rely

theorem min_ints4 (ats : Array TypeId) (ty : TypeId) (k k2 k3 k4 : IntKind) (a b c d : Int) : Builtin.min_ ats ty #[.int k a, .int k2 b, .int k3 c, .int k4 d] = pure (.int k (min (min (min a b) c) d)) := by
  have key : ∀ (k k' : IntKind) (a b : Int), Builtin.min2 (.int k a) (.int k' b) = pure (.int k (min a b)) := by
    intro k k' a b
    simp only [Builtin.min2]
    by_cases h : a ≤ b
    · rw [Int.min_eq_left h]; simp [show ¬ b < a by omega]
    · rw [Int.min_eq_right (by omega)]; simp [show b < a by omega]
  simp only [Builtin.min_, List.foldlM_cons, List.foldlM_nil, key, pure_bind]
attribute [local go_sem] min_ints4
theorem info_u8 : (Try.prog.info? 5).map (fun i => (i.zero, i.size, i.bytes)) = some (some (.int .u8 0), 1, 1) := by kernel_rfl

set_option maxHeartbeats 1000000 in
set_option maxRecDepth 20000 in
theorem mixes_calls (w : World) (A1 A2 A3 : Option Addr) (c1 c2 c3 : Nat) (a b m : List Int) (h1 : ArgI w .u8 A1 c1 a) (h2 : ArgI w .u8 A2 c2 b) (h3 : ArgI w .u8 A3 c3 m) :
    Calls Try.prog 5 #[.slice A1 a.length c1, .slice A2 b.length c2, .slice A3 m.length c3] w fun e w' => e = .returned (.bool true) ∧ Below w.heap.size w w' := by
  have H1 := Lib.hid h1
  have H2 := Lib.hid h2
  have H3 := Lib.hid h3
  clear h1 h2 h3
  obtain ⟨n, hn⟩ : ∃ n : Nat, min (a.length : Int) (min (b.length : Int) (min (m.length : Int) 200)) = n := ⟨min (min (min a.length b.length) m.length) 200, by omega⟩
  have hmk := run_make_row' (P := Try.prog) 34 5 (.int .u8 0) 1 Try.underlying34 info_u8 rfl .i64 .i64 n (by omega) (by omega)
  go_enter Try.func5, Try.ntmps5
  go_wp2_with fail
  refine (awake_calls w).mono ?_
  rintro e w1 ⟨rfl, hb1⟩
  go_upto_region 4 with fail
  go_cut [8, 9] (fun x y wc => ∃ p q, x = .slice (some ⟨p, 0, none⟩) n n ∧ y = .slice (some ⟨q, 0, none⟩) n n ∧ ∃ S, Sep (Row 5 .u8 (.slice (some ⟨p, 0, none⟩) n n) (List.replicate n 0)) (Row 5 .u8 (.slice (some ⟨q, 0, none⟩) n n) (List.replicate n 0)) wc S ∧ Step (fun _ => False) S w wc)
  case first =>
    have m1 := sepMade Lcl.emp (w := w1) (S := fun _ => False) (fun _ x => x) 5 .u8 n (by omega)
    have m2 := sepMade (Lcl.row _ _ _ _) (Sep.left_of_emp m1.1) 5 .u8 n (by omega)
    have hst : Step (fun _ => False) _ w _ := Step.trans (S' := fun _ => False) ⟨.of_below hb1, fun _ x => x.elim⟩ (m1.2.trans m2.2)
    have M2 := Lib.hid m2
    have ST := Lib.hid hst
    clear m1 m2 hst
    go_region
    all_goals (go_wp2_with fail; go_meet)
    all_goals (have h := M2.out.1; have st := ST.out; rw [show (w1.alloc (Obj.cells (madeCells #[Value.int IntKind.u8 0] n) 5)).heap.size = w1.heap.size + 1 by simp] at h st)
    all_goals first
      | exact ⟨_, _, rfl, rfl, _, ((Lcl.row _ _ _ _).sep (Lcl.row _ _ _ _)).drew h, st.drew⟩
      | exact ⟨_, _, rfl, rfl, _, ((Lcl.row _ _ _ _).sep (Lcl.row _ _ _ _)).drew h.comm, st.drew⟩
  case rest =>
    obtain ⟨p, q, rfl, rfl, S, h, st⟩ := hcut
    have H := Lib.hid h
    have ST := Lib.hid st
    clear h st hb1 hmk
    go_wp2_with fail
    go_loopw [25] (fun i wr => ∃ k : Nat, k ≤ n ∧ i = .int .i64 k ∧ ∃ S, Sep (Row 5 .u8 (.slice (some ⟨p, 0, none⟩) n n) (xors (a.take k) (m.take k) ++ List.replicate (n - k) 0)) (Row 5 .u8 (.slice (some ⟨q, 0, none⟩) n n) (xors (b.take k) (m.take k) ++ List.replicate (n - k) 0)) wr S ∧ Step (fun _ => False) S w wr) (fun i _ => n - (intOf i).toNat)
    case atStart => exact ⟨0, by omega, rfl, S, by simpa [xors] using H.out, ST.out⟩
    case round =>
      clear H ST
      obtain ⟨k, hk, rfl, S, h, st⟩ := hrel
      by_cases hlt : k < n
      · have hka : k < a.length := by omega
        have hkb : k < b.length := by omega
        have hkm : k < m.length := by omega
        obtain ⟨T1, hT1, _⟩ := h.left
        obtain ⟨T2, hT2, _⟩ := h.comm.left
        have hsb := step_below st
        have lx : ∀ z : List Int, k < z.length → (xors (z.take k) (m.take k)).length = k := fun z hz => by simp [xors]; omega
        have kx : ∀ z : List Int, k < z.length → k < (xors (z.take k) (m.take k) ++ List.replicate (n - k) 0).length := fun z hz => by rw [List.length_append, lx z hz]; simp; omega
        have fx := hT1.free k
        have fy := hT2.free k
        have cx := hT1.cell (kx a hka)
        have cy := hT2.cell (kx b hkb)
        generalize hX : (xors (a.take k) (m.take k) ++ List.replicate (n - k) 0).getD k 0 = xv at cx
        generalize hY : (xors (b.take k) (m.take k) ++ List.replicate (n - k) 0).getD k 0 = yv at cy
        obtain ⟨b1, o1, rfl, hb1, ca⟩ := (H1.out.reads.later hsb).at hka
        obtain ⟨b2, o2, rfl, hb2, cb⟩ := (H2.out.reads.later hsb).at hkb
        obtain ⟨b3, o3, rfl, hb3, cm⟩ := (H3.out.reads.later hsb).at hkm
        obtain ⟨za, hza⟩ : ∃ z, a.getD k 0 = z := ⟨_, rfl⟩
        obtain ⟨zb, hzb⟩ : ∃ z, b.getD k 0 = z := ⟨_, rfl⟩
        obtain ⟨zm, hzm⟩ : ∃ z, m.getD k 0 = z := ⟨_, rfl⟩
        rw [hza] at ca
        rw [hzb] at cb
        rw [hzm] at cm
        have hpq : p ≠ q := by
          obtain ⟨S1, S2, r1, r2, d, _⟩ := h
          rintro rfl
          exact d p ((r1.2 p).2 rfl) ((r2.2 p).2 rfl)
        have H := Lib.hid h
        have ST := Lib.hid st
        have HB := Lib.hid hsb
        clear h st hsb hT1 hT2 lx kx hX hY
        go_wp2_with fail
        go_big_region
        have s1 := sepSet (Lcl.row _ _ _ _) H.out k (bits .xor .u8 za zm)
        have s2 := sepSet (Lcl.row _ _ _ _) s1.1.comm k (bits .xor .u8 zb zm)
        have hst := (ST.out.trans (s1.2.trans s2.2)).drew
        have h' := ((Lcl.row _ _ _ _).sep (Lcl.row _ _ _ _)).drew s2.1.comm
        have x1 := xors_step a m n k hka hkm hlt
        have x2 := xors_step b m n k hkb hkm hlt
        rw [hza, hzm] at x1
        rw [hzb, hzm] at x2
        rw [x1, x2] at h'
        have H' := Lib.hid h'
        have ST' := Lib.hid hst
        clear h' hst s1 s2 x1 x2
        go_wp2_with fail
        go_roundw
        case rel => exact ⟨k + 1, by omega, rfl, S, H'.out, ST'.out⟩
        case measure => simp [intOf]; omega
      · obtain rfl : k = n := by omega
        rw [Nat.sub_self, List.replicate_zero, List.append_nil, List.append_nil] at h
        obtain ⟨T1, hT1, _⟩ := h.left
        obtain ⟨T2, hT2, _⟩ := h.comm.left
        have hsb := step_below st
        have hal : (a.take k).length = k := by simp; omega
        have hbl : (b.take k).length = k := by simp; omega
        have hxl : (xors (a.take k) (m.take k)).length = k := by simp [xors]; omega
        have hyl : (xors (b.take k) (m.take k)).length = k := by simp [xors]; omega
        have RA := Lib.hid ((H1.out.reads.later hsb).take k)
        have RB := Lib.hid ((H2.out.reads.later hsb).take k)
        have RX := Lib.hid hT1.readsAt
        have RY := Lib.hid hT2.readsAt
        have BA := Lib.hid (show IsBytes a from fun x hx => wf_u8 (H1.out.rng x hx))
        have BB := Lib.hid (show IsBytes b from fun x hx => wf_u8 (H2.out.rng x hx))
        have BM := Lib.hid (show IsBytes m from fun x hx => wf_u8 (H3.out.rng x hx))
        have SB := Lib.hid hsb
        have x1 := xor_code (sum (xors (a.take k) (m.take k))) (sum (a.take k))
        have x2 := xor_code (sum (xors (b.take k) (m.take k))) (sum (b.take k))
        rw [← mixes a b m k BA.out BB.out BM.out (by omega) (by omega) (by omega)] at x2
        have hlea := H1.out.le
        have hleb := H2.out.le
        have hcapa := H1.out.cap
        have hcapb := H2.out.cap
        simp only [maxLen] at hcapa hcapb
        obtain ⟨X, hX⟩ : ∃ X, xors (a.take k) (m.take k) = X := ⟨_, rfl⟩
        obtain ⟨Y, hY⟩ : ∃ Y, xors (b.take k) (m.take k) = Y := ⟨_, rfl⟩
        obtain ⟨A, hA⟩ : ∃ A, a.take k = A := ⟨_, rfl⟩
        obtain ⟨B, hB⟩ : ∃ B, b.take k = B := ⟨_, rfl⟩
        have IX := Lib.hid (show IsBytes X from hX ▸ xors_bytes _ _)
        have IY := Lib.hid (show IsBytes Y from hY ▸ xors_bytes _ _)
        have IA := Lib.hid (show IsBytes A from hA ▸ take_bytes BA.out k)
        have IB := Lib.hid (show IsBytes B from hB ▸ take_bytes BB.out k)
        have HAL := Lib.hid hal
        have HBL := Lib.hid hbl
        have HXL := Lib.hid hxl
        have HYL := Lib.hid hyl
        rw [hX] at RX x1 x2 HXL
        rw [hY] at RY x2 HYL
        rw [hA] at RA x1 x2 HAL
        rw [hB] at RB x2 HBL
        clear hX hY hA hB hal hbl hxl hyl hsb h st hT1 hT2 BA BB BM
        go_upto_region 10 with fail
        refine wp_region_rely (by kernel_rfl) Ext Ext.refl Ext.trans [[(8, none)], [(53, some 0)], [(0, none)], [(7, none)], [(55, some 2), (56, some 3)], [(57, some 4)], [(54, some 1), (58, some 5)], [(9, none)], [(60, some 7)], [(1, none)], [(7, none)], [(62, some 9), (63, some 10)], [(64, some 11)], [(61, some 8), (65, some 12)], [(59, some 6), (66, some 13)], [(67, some 14)]] [some 53, some 54, some 55, some 56, some 57, some 58, some 59, some 60, some 61, some 62, some 63, some 64, some 65, some 66, some 67, some 6] (by kernel_rfl) (by kernel_rfl) ?_
        -- 0: slot 53 := Op.move t8
        apply rely_const; case h => (intro wr hR a h8 K hK; go_wp2_with fail; exact Ext.refl _)
        -- 1: slot 54 := Op.call { value (Operand.func 22), args := #[t53], argTypes := #[34] }
        apply rely_const
        case h =>
          intro wr hR a h53 K hK
          have hs := sum_calls wr _ k X (hR.reads RX.out) IX.out (by rw [HXL.out]; omega)
          rw [HXL.out] at hs
          go_wp2_with fail
          refine (hs).mono ?_
          rintro e w2 ⟨rfl, hb⟩
          go_wp2_with fail
          exact hb
        -- 2: slot 55 := Op.move t0
        apply rely_const; case h => (intro wr hR a h0 K hK; go_wp2_with fail; exact Ext.refl _)
        -- 3: slot 56 := Op.move t7
        apply rely_const; case h => (intro wr hR a h7 K hK; go_wp2_with fail; exact Ext.refl _)
        -- 4: slot 57 := Op.slice 34 t55 none (some t56) none
        apply rely_const; case h => (intro wr hR a h55 h56 K hK; go_wp2_with fail; exact Ext.refl _)
        -- 5: slot 58 := Op.call { value (Operand.func 22), args := #[t57], argTypes := #[34] }
        apply rely_const
        case h =>
          intro wr hR a h57 K hK
          have hs := sum_calls wr _ c1 A (hR.reads RA.out) IA.out (by rw [HAL.out]; omega)
          rw [HAL.out] at hs
          go_wp2_with fail
          refine (hs).mono ?_
          rintro e w2 ⟨rfl, hb⟩
          go_wp2_with fail
          exact hb
        -- 6: slot 59 := Op.binOp BinOp.xor 22 t54 t58 22
        apply rely_const; case h => (intro wr hR a h54 h58 K hK; go_wp2_with fail; exact Ext.refl _)
        -- 7: slot 60 := Op.move t9
        apply rely_const; case h => (intro wr hR a h9 K hK; go_wp2_with fail; exact Ext.refl _)
        -- 8: slot 61 := Op.call { value (Operand.func 22), args := #[t60], argTypes := #[34] }
        apply rely_const
        case h =>
          intro wr hR a h60 K hK
          have hs := sum_calls wr _ k Y (hR.reads RY.out) IY.out (by rw [HYL.out]; omega)
          rw [HYL.out] at hs
          go_wp2_with fail
          refine (hs).mono ?_
          rintro e w2 ⟨rfl, hb⟩
          go_wp2_with fail
          exact hb
        -- 9: slot 62 := Op.move t1
        apply rely_const; case h => (intro wr hR a h1 K hK; go_wp2_with fail; exact Ext.refl _)
        -- 10: slot 63 := Op.move t7
        apply rely_const; case h => (intro wr hR a h7 K hK; go_wp2_with fail; exact Ext.refl _)
        -- 11: slot 64 := Op.slice 34 t62 none (some t63) none
        apply rely_const; case h => (intro wr hR a h62 h63 K hK; go_wp2_with fail; exact Ext.refl _)
        -- 12: slot 65 := Op.call { value (Operand.func 22), args := #[t64], argTypes := #[34] }
        apply rely_const
        case h =>
          intro wr hR a h64 K hK
          have hs := sum_calls wr _ c2 B (hR.reads RB.out) IB.out (by rw [HBL.out]; omega)
          rw [HBL.out] at hs
          go_wp2_with fail
          refine (hs).mono ?_
          rintro e w2 ⟨rfl, hb⟩
          go_wp2_with fail
          exact hb
        -- 13: slot 66 := Op.binOp BinOp.xor 22 t61 t65 22
        apply rely_const; case h => (intro wr hR a h61 h65 K hK; go_wp2_with fail; exact Ext.refl _)
        -- 14: slot 67 := Op.binOp BinOp.eql 22 t59 t66 22
        apply rely_const; case h => (intro wr hR a h59 h66 K hK; go_wp2_with fail; exact Ext.refl _)
        -- 15: slot 6 := Op.assign t67
        apply rely_const; case h => (intro wr hR a h67 K hK; go_wp2_with fail; exact Ext.refl _)
        refine rely_end ?_
        intro wr hR
        simp only [ends, Act.put, List.setIfInBounds_toArray, List.set_cons_zero, List.set_cons_succ]
        go_wp2_with fail
        go_ret
        exact ⟨rfl, hR.undrew.after SB.out SB.out.size⟩

theorem mixes_wf (A1 : Option Addr) (c1 : Nat) (a : List Int) (A2 : Option Addr) (c2 : Nat) (b : List Int) (A3 : Option Addr) (c3 : Nat) (m : List Int) (w : World) (h1 : ArgI w .u8 A1 c1 a) (h2 : ArgI w .u8 A2 c2 b) (h3 : ArgI w .u8 A3 c3 m) :
    Calls Try.prog 5 #[.slice A1 a.length c1, .slice A2 b.length c2, .slice A3 m.length c3] w fun e w' => e = .returned (.bool true) ∧ Below w.heap.size w w' :=
  mixes_calls w A1 A2 A3 c1 c2 c3 a b m h1 h2 h3

end Go.Proofs.Ythemincohmgihaa.Crc
