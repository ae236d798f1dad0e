/- P21.1: names that are there, and names that aren't: at every input, without conditions. -/
import Derived.Test.YtfpeeilenocaoaaIndexFirst
import Derived.Test.YtfpeeilenocaoaaFrameS
namespace Go.Proofs.Ytfpeeilenocaoaa.Idx
open Go.RowKit Go.Proofs.Ytfpeeilenocaoaa.Own Go.Proofs.Ytfpeeilenocaoaa.Rely Go.Proofs.Ytfpeeilenocaoaa.Crc Go.Proofs.Ytfpeeilenocaoaa.Frame
attribute [local go_sem] max_ints min_ints

theorem str_of (s : ByteArray) : ∃ xs, IsBytes xs ∧ s = strOfNums xs := by
  refine ⟨s.data.toList.map (fun b => (b.toNat : Int)), fun x hx => ?_, ?_⟩
  · obtain ⟨b, _, rfl⟩ := List.mem_map.1 hx
    have := b.toNat_lt
    omega
  · apply ByteArray.ext
    unfold strOfNums
    simp only [List.map_map]
    have : (fun n : Int => UInt8.ofNat n.toNat) ∘ (fun b : UInt8 => (b.toNat : Int)) = id := by
      funext b
      simp
    simp [Function.comp_def]
/-- Strings that are read. -/
def ReadsS (w : World) (A : Option Addr) (l : List (List Int)) : Prop := ∀ i, i < l.length → ∃ b o, A = some ⟨b, o, none⟩ ∧ w.cell? ⟨b, o + i, none⟩ = some (.string (strOfNums (l.getD i [])))
theorem ReadsS.ext {w w' : World} {A : Option Addr} {l : List (List Int)} (h : ReadsS w A l) (x : Ext w w') : ReadsS w' A l := by
  intro i hi
  obtain ⟨b, o, e, h0⟩ := h i hi
  exact ⟨b, o, e, x.cell h0⟩
theorem reads_own {w : World} {v : Value} {l : List (List Int)} {t : TypeId} (h : w.ownsRow 0 t 1 v l.length (l.map (fun x => Value.string (strOfNums x)))) : ∃ A c, v = .slice A l.length c ∧ ReadsS w A l := by
  rcases h.2 with ⟨rfl, hn⟩ | ⟨g, cap, cur, rfl, _, hg, hnc, hcm, _⟩
  · exact ⟨none, 0, by rw [hn], fun i hi => absurd hi (by omega)⟩
  · refine ⟨_, cap, rfl, fun i hi => ⟨g, 0, rfl, ?_⟩⟩
    have hc := h.cells (g := g) rfl i (.string (strOfNums (l.getD i []))) (by simp [List.getElem?_eq_getElem hi, List.getD_eq_getElem?_getD])
    rw [add_lit'] at hc
    exact hc
theorem str_zero (nb : List Int) : strOfNums nb ++ (⟨#[0]⟩ : ByteArray) = strOfNums (nb ++ [0]) := by
  rw [← str_app]; rfl
theorem info_str : (Try.prog.info? 9).map (fun i => (i.zero, i.size, i.bytes)) = some (some (.string ⟨#[]⟩), 1, 16) := by kernel_rfl

set_option maxHeartbeats 16000000 in
set_option maxRecDepth 20000 in
theorem finds_wf (A : Option Addr) (c : Nat) (xs : List Itm) (at_ : Int) (name : ByteArray) (k : Int) (w : World) (h1 : ArgT w A c xs) (h2 : (Lit.int .u16 at_).wf = true) (hs : name.size ≤ 140737488351232) (h3 : (Lit.int .u8 k).wf = true) :
    Calls Try.prog 12 #[.slice A xs.length c, .int .u16 at_, .string name, .int .u8 k] w fun e w' => e = .returned (.bool true) ∧ Below w.heap.size w w' := by
  have hat := wf_u16 h2
  have hku := wf_u8 h3
  obtain ⟨an, rfl⟩ : ∃ n : Nat, at_ = (n : Int) := ⟨at_.toNat, by omega⟩
  obtain ⟨kn, rfl⟩ : ∃ n : Nat, k = (n : Int) := ⟨k.toNat, by omega⟩
  obtain ⟨n0, hn0, rfl⟩ := str_of name
  have hsz0 : (strOfNums n0).size = n0.length := Crc.size_str n0
  have HN0 := Lib.hid hn0
  have HR := Lib.hid h1.reads
  have HOK := Lib.hid h1.okay
  clear h1 h2 h3 hn0 hs
  go_enter Try.func12, Try.ntmps12
  go_wp2_with fail
  refine (awake21 w).mono ?_
  rintro e w1 ⟨rfl, hx1⟩
  have X1 := Lib.hid hx1
  clear hx1
  by_cases hl : 60 < xs.length
  · have g1 : decide ((60 : Int) < (xs.length : Int)) = true := by simp; omega
    go_wp2_with fail
    go_ret
    exact ⟨rfl, X1.out⟩
  have g1 : decide ((60 : Int) < (xs.length : Int)) = false := by simp; omega
  by_cases hl0 : 60 < n0.length
  · have g2 : decide ((60 : Int) < (n0.length : Int)) = true := by simp; omega
    go_wp2_with fail
    go_ret
    exact ⟨rfl, X1.out⟩
  have g2 : decide ((60 : Int) < (n0.length : Int)) = false := by simp; omega
  have HMK := Lib.hid (make_c A c xs w1 (HR.out.ext X1.out) HOK.out (by omega) an (by omega))
  go_wp2_with fail
  refine HMK.out.mono ?_
  rintro e w2 ⟨v, L, rfl, hmk⟩
  have X2 := Lib.hid (Ext.trans _ _ _ X1.out hmk.ext)
  have HNM := Lib.hid hmk.nmb
  have hL := hmk.len
  obtain ⟨Av, cv, rfl, hcv1, hrd, _, hcv2⟩ := hmk.row.reads
  have HRE := Lib.hid hrd
  have HCK := Lib.hid (check_c Av cv L w2 hrd (by omega))
  obtain ⟨N, hN⟩ : ∃ N, checkX L = N := ⟨_, rfl⟩
  rw [hN] at HCK
  clear hmk hrd HMK X1 HR HOK
  go_wp2_with fail
  refine HCK.out.mono ?_
  rintro e w3 ⟨rfl, hx3⟩
  have X3 := Lib.hid (Ext.trans _ _ _ X2.out hx3)
  have HRE3 := Lib.hid (HRE.out.ext hx3)
  clear hx3 HCK HRE X2
  by_cases hN0 : N = 0
  · subst hN0
    have HC0 := Lib.hid hN
    clear hN
    obtain ⟨w5, hw5⟩ : ∃ w5, w3.alloc (.cells #[.string (strOfNums n0)] 9) = w5 := ⟨_, rfl⟩
    have hx5 : Ext w3 w5 := by rw [← hw5]; exact (Below.refl _ _).alloc (Nat.le_refl _) _
    have hown5 : w5.ownsRow 0 9 1 (.slice (some ⟨w3.heap.size, 0, none⟩) 1 1) 1 [.string (strOfNums n0)] := by
      rw [← hw5]
      exact World.ownsRow_lit (base := 0) (e := 9) (size := 1) w3 #[.string (strOfNums n0)] 1 (Nat.zero_le _) (by simp [maxLen]) (by simp)
    have X5 := Lib.hid (Ext.trans _ _ _ X3.out hx5)
    have HRE5 := Lib.hid (HRE3.out.ext hx5)
    by_cases hL0 : 0 < L.length
    · have g3 : decide ((0 : Int) < (L.length : Int)) = true := by simp; omega
      obtain ⟨m, hm, hmL⟩ : ∃ m : Nat, Int.tmod (kn : Int) (L.length : Int) = (m : Int) ∧ m < L.length := ⟨kn % L.length, by rw [Int.tmod_eq_emod_of_nonneg (by omega)]; rfl, Nat.mod_lt _ hL0⟩
      have hnz : ¬ (L.length : Int) = 0 := by omega
      have hml := nat_lt_of hmL
      have hml2 : (m : Int) < (L.length : Int) := by omega
      obtain ⟨b, o, rfl, hb3, c0, c1, c2⟩ := HRE3.out m hmL
      replace c0 := hx5.cell c0
      have hbd := (check_bd HC0.out).2 _ (getD_mem hmL)
      have hnb := HNM.out _ (getD_mem hmL)
      obtain ⟨nb, hnbe⟩ : ∃ nb, (L.getD m e0).1 = nb := ⟨_, rfl⟩
      rw [hnbe] at c0 hnb
      have hb1 : 1 ≤ nb.length := by rw [← hnbe]; exact hbd.1
      have hb2 : nb.length ≤ 255 := by rw [← hnbe]; exact hbd.2.1
      clear hbd hnbe c1 c2
      obtain ⟨q, hq⟩ : ∃ q, nb.length = q + 1 := ⟨nb.length - 1, by omega⟩
      have hszb : (strOfNums nb).size = q + 1 := by rw [Crc.size_str]; exact hq
      have hstr : strOfNums nb ++ (⟨#[0]⟩ : ByteArray) = strOfNums (nb ++ [0]) := str_zero nb
      have hext : (strOfNums nb).extract 0 q = strOfNums (nb.take q) := str_take nb q (by omega)
      have HQ := Lib.hid hq
      have hq1 : q ≤ 254 := by omega
      have hq2 : q ≤ q + 1 := by omega
      obtain ⟨w6, hw6⟩ : ∃ w6, w5.alloc (.cells #[.string (strOfNums nb), .string (strOfNums (nb ++ [0])), .string (strOfNums (nb.take q))] 9) = w6 := ⟨_, rfl⟩
      have hx6 : Ext w5 w6 := by rw [← hw6]; exact (Below.refl _ _).alloc (Nat.le_refl _) _
      have hb6 := heap_alloc_new w5 (.cells #[.string (strOfNums nb), .string (strOfNums (nb ++ [0])), .string (strOfNums (nb.take q))] 9)
      rw [hw6] at hb6
      have hown6 := owns_keep hown5 (w' := w6) (fun k hk => hx6.block k ((hown5.lt k hk).2))
      obtain ⟨i0, hi0, hzz⟩ := Option.map_eq_some_iff.1 info_str
      simp only [Prod.mk.injEq] at hzz
      obtain ⟨v7, w7, hr7, ho7, hg7, _, h57⟩ := run_append_own_at (P := Try.prog) (w := w6) 0 63 63 9 i0 (.string ⟨#[]⟩) 1 16 Try.underlying63 hi0 hzz.1 hzz.2.1 hzz.2.2 rfl (by omega) _ 1 _ hown6 ⟨w5.heap.size, 0, none⟩ 3 3 [.string (strOfNums nb), .string (strOfNums (nb ++ [0])), .string (strOfNums (nb.take q))] rfl
        (fun j u hu => by rw [add_lit', cell_of_row _ _ _ _ _ _ hb6, Nat.zero_add]; simpa using hu) (by intro u hu; simp only [List.mem_cons, List.not_mem_nil, or_false] at hu; rcases hu with rfl | rfl | rfl <;> rfl) (by simp [maxLen]) (by omega) (Nat.zero_le _)
      obtain ⟨A7, c7, rfl, hrs7⟩ := reads_own (l := [n0, nb, nb ++ [0], nb.take q]) ho7
      have hk7 : Keep (fun k => k = w3.heap.size) w6 w7 := (Keep.refl _ w6).grown hg7 (fun q hq _ => by simp [Value.ownBlock] at hq; exact hq.symm)
      have X6 := Lib.hid (Ext.trans _ _ _ X5.out hx6)
      have X7 := Lib.hid (show Ext w w7 from Below.trans X6.out (hk7.below X6.out.size (fun x hx hz => by have hz' : x = w3.heap.size := hz; have := X3.out.size; omega)))
      have HREW := Lib.hid ((HRE5.out.ext hx6).keep hk7 (fun a ha => by injection ha with ha; subst ha; show ¬ b = w3.heap.size; omega))
      have HSR := Lib.hid hrs7
      have HSB := Lib.hid (show ∀ x ∈ [n0, nb, nb ++ [0], nb.take q], IsBytes x from fun x hx => by
        simp only [List.mem_cons, List.not_mem_nil, or_false] at hx
        rcases hx with rfl | rfl | rfl | rfl
        · exact HN0.out
        · exact hnb
        · exact Wire.IsBytes.app hnb (fun y hy => by rw [List.mem_singleton.1 hy]; omega)
        · exact fun y hy => hnb y (List.mem_of_mem_take hy))
      have HRUN := Lib.hid (show (Builtin.append_ #[63, 63] 63 #[.slice (some ⟨w3.heap.size, 0, none⟩) 1 1, .slice (some ⟨w5.heap.size, 0, none⟩) 3 3]).run Try.prog w6 = .ok (.slice A7 4 c7) w7 from hr7)
      clear hown5 hown6 hi0 hzz hr7 ho7 hg7 h57 hb6 hrs7 hk7 hx5 hx6 hnb HRE5 HRE3 X3 X5 X6 HN0 HQ
      subst hw6
      go_wp2_with (at_builtin; refine append_known _ rfl _ _ 63 rfl (.slice (some ⟨w3.heap.size, 0, none⟩) 1 1) (.slice (some ⟨w5.heap.size, 0, none⟩) 3 3) (.slice A7 4 c7) w7 rfl rfl HRUN.out ?_)
      go_loopw [63] (fun v wq => ∃ i : Nat, i ≤ 4 ∧ v = .int .i64 i ∧ Ext w7 wq) (fun v _ => 4 - (intOf v).toNat)
      case atStart => exact ⟨0, by omega, rfl, Ext.refl _⟩
      case round =>
        obtain ⟨i, hi, rfl, hxr⟩ := hrel
        have XR := Lib.hid hxr
        clear hxr
        by_cases hi2 : i < 4
        · have di : decide ((i : Int) < 4) = true := by simp; omega
          obtain ⟨b9, o9, e9, cn⟩ := (HSR.out.ext XR.out) i hi2
          cases e9
          try rw [Nat.zero_add] at cn
          have hnmb := HSB.out ([n0, nb, nb ++ [0], nb.take q].getD i []) (by rw [List.getD_eq_getElem?_getD, List.getElem?_eq_getElem (show i < [n0, nb, nb ++ [0], nb.take q].length from hi2)]; exact List.getElem_mem _)
          obtain ⟨nm, hnm⟩ : ∃ nm, [n0, nb, nb ++ [0], nb.take q].getD i [] = nm := ⟨_, rfl⟩
          rw [hnm] at cn hnmb
          have HNMB := Lib.hid hnmb
          clear hnm hnmb
          have hxA : Ext wr (wr.alloc (.cells #[.string ⟨#[]⟩, .int .i64 0, .int .i64 0] 55)) := (Below.refl _ _).alloc (Nat.le_refl _) _
          have hbA := heap_alloc_new wr (.cells #[.string ⟨#[]⟩, .int .i64 0, .int .i64 0] 55)
          have XA := Lib.hid (Ext.trans _ _ _ XR.out hxA)
          have HBA := Lib.hid (show Blk wr.heap.size #[.string ⟨#[]⟩, .int .i64 0, .int .i64 0] 55 (wr.alloc (.cells #[.string ⟨#[]⟩, .int .i64 0, .int .i64 0] 55)) (fun q => q = wr.heap.size) from ⟨hbA, fun _ => Iff.rfl⟩)
          have hpW : w7.heap.size ≤ wr.heap.size := XR.out.size
          clear hxA hbA XR
          go_wp2_with fail
          generalize wr.alloc (.cells #[.string ⟨#[]⟩, .int .i64 0, .int .i64 0] 55) = wA at HBA XA ⊢
          generalize wr.heap.size = pW at HBA hpW ⊢
          go_loopw [15, 69] (fun v15 v69 wq => ∃ (j : Nat) (f : Bool) (x : Ent), j ≤ L.length ∧ v69 = .int .i64 j ∧ v15 = .bool f ∧ Blk pW #[.string (strOfNums x.1), .int .i64 x.2.1, .int .i64 x.2.2] 55 wq (fun q => q = pW) ∧ Ext w7 wq ∧
            (f = true → ∃ i', i' < j ∧ L.getD i' e0 = x ∧ x.1 = nm) ∧ (f = false → x = e0 ∧ ∀ i', i' < j → (L.getD i' e0).1 ≠ nm)) (fun _ v _ => L.length - (intOf v).toNat)
          case atStart => exact ⟨0, false, e0, by omega, rfl, rfl, HBA.out, XA.out, (fun h => by cases h), (fun _ => ⟨rfl, fun i2 h => absurd h (by omega)⟩)⟩
          case round =>
            obtain ⟨j, f, x, hj, rfl, rfl, hbx, hxq, hft, hff⟩ := hrel
            have HBX := Lib.hid hbx
            have XQ := Lib.hid hxq
            have HFT := Lib.hid hft
            have HFF := Lib.hid hff
            clear hbx hxq hft hff HBA XA
            by_cases hj2 : j < L.length
            · have dj := nat_lt_of hj2
              obtain ⟨b8, o8, e8, hb8, c80, c81, c82⟩ := HREW.out.ext XQ.out j hj2
              cases e8
              have hyb := HNM.out _ (getD_mem hj2)
              obtain ⟨y, hy⟩ : ∃ y, L.getD j e0 = y := ⟨_, rfl⟩
              rw [hy] at c80 c81 c82 hyb
              have hx17 : Ext wr (wr.alloc (.cells #[.string (strOfNums y.1), .int .i64 y.2.1, .int .i64 y.2.2] 55)) := (Below.refl _ _).alloc (Nat.le_refl _) _
              have hb17 := heap_alloc_new wr (.cells #[.string (strOfNums y.1), .int .i64 y.2.1, .int .i64 y.2.2] 55)
              obtain ⟨w17, hw17⟩ : ∃ w17, wr.alloc (.cells #[.string (strOfNums y.1), .int .i64 y.2.1, .int .i64 y.2.2] 55) = w17 := ⟨_, rfl⟩
              rw [hw17] at hx17 hb17
              have a0 : w17.cell? ⟨wr.heap.size, 0, none⟩ = some (.string (strOfNums y.1)) := Blk.cell (S := fun q => q = wr.heap.size) ⟨hb17, fun _ => Iff.rfl⟩ 0
              have a1 : w17.cell? ⟨wr.heap.size, 1, none⟩ = some (.int .i64 y.2.1) := Blk.cell (S := fun q => q = wr.heap.size) ⟨hb17, fun _ => Iff.rfl⟩ 1
              have a2 : w17.cell? ⟨wr.heap.size, 2, none⟩ = some (.int .i64 y.2.2) := Blk.cell (S := fun q => q = wr.heap.size) ⟨hb17, fun _ => Iff.rfl⟩ 2
              have hbx17 := Ext.keep (Lcl.blk _ _ _) hx17 HBX.out
              have X17 := Lib.hid (Ext.trans _ _ _ XQ.out hx17)
              clear hx17 hb17 HBX XQ
              by_cases hyn : y.1 = nm
              · have hse := str_eq hyn
                have HYN := Lib.hid hyn
                have HY := Lib.hid hy
                clear hyn hy
                obtain ⟨z0, hz0⟩ : ∃ z0, (w17).setCell ⟨pW, 0, none⟩ (.string (strOfNums y.1)) = z0 := ⟨_, rfl⟩
                have Bz0 := hbx17.set 0 (.string (strOfNums y.1))
                rw [hz0] at Bz0
                have jz0 : (w17).cell? ⟨pW, 0, none⟩ = some (.string (strOfNums x.1)) := hbx17.cell 0
                have fz0 := hbx17.free 0
                have Dz0 : Blk pW #[.string (strOfNums y.1), .int .i64 x.2.1, .int .i64 x.2.2] 55 z0 (fun q => q = pW) := Bz0.1
                have Kz0 := Bz0.2.keep
                clear Bz0
                obtain ⟨z1, hz1⟩ : ∃ z1, (z0).setCell ⟨pW, 1, none⟩ (.int .i64 y.2.1) = z1 := ⟨_, rfl⟩
                have Bz1 := Dz0.set 1 (.int .i64 y.2.1)
                rw [hz1] at Bz1
                have jz1 : (z0).cell? ⟨pW, 1, none⟩ = some (.int .i64 x.2.1) := Dz0.cell 1
                have fz1 := Dz0.free 1
                have Dz1 : Blk pW #[.string (strOfNums y.1), .int .i64 y.2.1, .int .i64 x.2.2] 55 z1 (fun q => q = pW) := Bz1.1
                have Kz1 := Bz1.2.keep
                clear Bz1
                obtain ⟨z2, hz2⟩ : ∃ z2, (z1).setCell ⟨pW, 2, none⟩ (.int .i64 y.2.2) = z2 := ⟨_, rfl⟩
                have Bz2 := Dz1.set 2 (.int .i64 y.2.2)
                rw [hz2] at Bz2
                have jz2 : (z1).cell? ⟨pW, 2, none⟩ = some (.int .i64 x.2.2) := Dz1.cell 2
                have fz2 := Dz1.free 2
                have Dz2 : Blk pW #[.string (strOfNums y.1), .int .i64 y.2.1, .int .i64 y.2.2] 55 z2 (fun q => q = pW) := Bz2.1
                have Kz2 := Bz2.2.keep
                clear Bz2
                have XZ := Lib.hid (ext_keep (ext_keep (ext_keep X17.out Kz0 hpW) Kz1 hpW) Kz2 hpW)
                have HDZ := Lib.hid Dz2
                clear Dz0 Dz1 Dz2 Kz0 Kz1 Kz2 hbx17
                go_wp2_with fail
                go_roundw
                case rel => exact ⟨j + 1, true, y, by omega, by go_num, rfl, HDZ.out, XZ.out, fun _ => ⟨j, by omega, HY.out, HYN.out⟩, (fun h => by cases h)⟩
                case measure => simp [intOf]; omega
              · have hse := Own.str_ne hyb HNMB.out hyn
                have HBX := Lib.hid hbx17
                have HYN := Lib.hid hyn
                have HY := Lib.hid hy
                clear hbx17 hyn hy
                go_wp2_with fail
                go_roundw
                case rel =>
                  refine ⟨j + 1, f, x, by omega, by go_num, rfl, HBX.out, X17.out, fun h => ?_, fun h => ⟨(HFF.out h).1, fun i' hi' => ?_⟩⟩
                  · obtain ⟨i', h1, h2⟩ := HFT.out h
                    exact ⟨i', by omega, h2⟩
                  · rcases Nat.lt_or_ge i' j with q | q
                    · exact (HFF.out h).2 i' q
                    · obtain rfl : i' = j := by omega
                      rw [HY.out]; exact HYN.out
                case measure => simp [intOf]; omega
            · obtain rfl : j = L.length := by omega
              have dj : decide ((L.length : Int) < (L.length : Int)) = false := by simp
              have HF := Lib.hid (find_c _ cv L nm wr (HREW.out.ext XQ.out) HC0.out HNM.out HNMB.out)
              go_wp2_with fail
              refine HF.out.mono ?_
              rintro e wf ⟨hf, hxf⟩
              clear HF
              rcases hf with ⟨i', hi', hn', rfl⟩ | ⟨hno, rfl⟩
              · cases f with
                | false => exact absurd hn' ((HFF.out rfl).2 i' hi')
                | true =>
                  obtain ⟨i2, hi2', hx2, hx3⟩ := HFT.out rfl
                  obtain rfl : i' = i2 := same_name HC0.out hi' hi2' (by rw [hn', hx2, hx3])
                  rw [hx2]
                  clear hx2 hx3 hn' hi' hi2' HFT HFF
                  have hx18 : Ext wf (wf.alloc (.cells #[.string (strOfNums x.1), .int .i64 x.2.1, .int .i64 x.2.2] 55)) := (Below.refl _ _).alloc (Nat.le_refl _) _
                  have hb18 := heap_alloc_new wf (.cells #[.string (strOfNums x.1), .int .i64 x.2.1, .int .i64 x.2.2] 55)
                  obtain ⟨w18, hw18⟩ : ∃ w18, wf.alloc (.cells #[.string (strOfNums x.1), .int .i64 x.2.1, .int .i64 x.2.2] 55) = w18 := ⟨_, rfl⟩
                  rw [hw18] at hx18 hb18
                  have a0 : w18.cell? ⟨wf.heap.size, 0, none⟩ = some (.string (strOfNums x.1)) := Blk.cell (S := fun q => q = wf.heap.size) ⟨hb18, fun _ => Iff.rfl⟩ 0
                  have a1 : w18.cell? ⟨wf.heap.size, 1, none⟩ = some (.int .i64 x.2.1) := Blk.cell (S := fun q => q = wf.heap.size) ⟨hb18, fun _ => Iff.rfl⟩ 1
                  have a2 : w18.cell? ⟨wf.heap.size, 2, none⟩ = some (.int .i64 x.2.2) := Blk.cell (S := fun q => q = wf.heap.size) ⟨hb18, fun _ => Iff.rfl⟩ 2
                  have hbq := Ext.keep (Lcl.blk _ _ _) (Ext.trans _ _ _ hxf hx18) HBX.out
                  have b0 : w18.cell? ⟨pW, 0, none⟩ = some (.string (strOfNums x.1)) := hbq.cell 0
                  have b1 : w18.cell? ⟨pW, 1, none⟩ = some (.int .i64 x.2.1) := hbq.cell 1
                  have b2 : w18.cell? ⟨pW, 2, none⟩ = some (.int .i64 x.2.2) := hbq.cell 2
                  have X18 := Lib.hid (Ext.trans _ _ _ XQ.out (Ext.trans _ _ _ hxf hx18))
                  clear hx18 hb18 hbq HBX XQ hxf
                  go_wp2_with fail
                  go_roundw
                  case rel => exact ⟨i + 1, by omega, by go_num, X18.out⟩
                  case measure => simp [intOf]; omega
              · cases f with
                | true =>
                  obtain ⟨i2, hi2', hx2, hx3⟩ := HFT.out rfl
                  exact absurd (by rw [hx2]; exact hx3) (hno i2 hi2')
                | false =>
                  have hxe := (HFF.out rfl).1
                  have hz : (Value.agg #[.string ⟨#[]⟩, .int .i64 0, .int .i64 0]) = .agg #[.string (strOfNums x.1), .int .i64 x.2.1, .int .i64 x.2.2] := by rw [hxe]; rfl
                  rw [hz]
                  clear HFT HFF hno hxe hz
                  have hx18 : Ext wf (wf.alloc (.cells #[.string (strOfNums x.1), .int .i64 x.2.1, .int .i64 x.2.2] 55)) := (Below.refl _ _).alloc (Nat.le_refl _) _
                  have hb18 := heap_alloc_new wf (.cells #[.string (strOfNums x.1), .int .i64 x.2.1, .int .i64 x.2.2] 55)
                  obtain ⟨w18, hw18⟩ : ∃ w18, wf.alloc (.cells #[.string (strOfNums x.1), .int .i64 x.2.1, .int .i64 x.2.2] 55) = w18 := ⟨_, rfl⟩
                  rw [hw18] at hx18 hb18
                  have a0 : w18.cell? ⟨wf.heap.size, 0, none⟩ = some (.string (strOfNums x.1)) := Blk.cell (S := fun q => q = wf.heap.size) ⟨hb18, fun _ => Iff.rfl⟩ 0
                  have a1 : w18.cell? ⟨wf.heap.size, 1, none⟩ = some (.int .i64 x.2.1) := Blk.cell (S := fun q => q = wf.heap.size) ⟨hb18, fun _ => Iff.rfl⟩ 1
                  have a2 : w18.cell? ⟨wf.heap.size, 2, none⟩ = some (.int .i64 x.2.2) := Blk.cell (S := fun q => q = wf.heap.size) ⟨hb18, fun _ => Iff.rfl⟩ 2
                  have hbq := Ext.keep (Lcl.blk _ _ _) (Ext.trans _ _ _ hxf hx18) HBX.out
                  have b0 : w18.cell? ⟨pW, 0, none⟩ = some (.string (strOfNums x.1)) := hbq.cell 0
                  have b1 : w18.cell? ⟨pW, 1, none⟩ = some (.int .i64 x.2.1) := hbq.cell 1
                  have b2 : w18.cell? ⟨pW, 2, none⟩ = some (.int .i64 x.2.2) := hbq.cell 2
                  have X18 := Lib.hid (Ext.trans _ _ _ XQ.out (Ext.trans _ _ _ hxf hx18))
                  clear hx18 hb18 hbq HBX XQ hxf
                  go_wp2_with fail
                  go_roundw
                  case rel => exact ⟨i + 1, by omega, by go_num, X18.out⟩
                  case measure => simp [intOf]; omega
        · obtain rfl : i = 4 := by omega
          go_wp2_with fail
          go_ret
          exact ⟨rfl, Ext.trans _ _ _ X7.out XR.out⟩
    · have g3 : decide ((0 : Int) < (L.length : Int)) = false := decide_eq_false (by omega)
      have X7 := X5
      have HREW := HRE5
      obtain ⟨A7, c7, e7, hrs7⟩ := reads_own (l := [n0]) hown5
      injection e7 with e71 e72 e73
      have HSR := Lib.hid hrs7
      have HSB := Lib.hid (show ∀ x ∈ [n0], IsBytes x from fun x hx => by rw [List.mem_singleton.1 hx]; exact HN0.out)
      subst e71 e73
      clear hown5 hx5 hrs7 HRE5 HRE3 X3 X5 HN0 e72
      go_wp2_with fail
      go_loopw [63] (fun v wq => ∃ i : Nat, i ≤ 1 ∧ v = .int .i64 i ∧ Ext w5 wq) (fun v _ => 1 - (intOf v).toNat)
      case atStart => exact ⟨0, by omega, rfl, Ext.refl _⟩
      case round =>
        obtain ⟨i, hi, rfl, hxr⟩ := hrel
        have XR := Lib.hid hxr
        clear hxr
        by_cases hi2 : i < 1
        · have di : decide ((i : Int) < 1) = true := by simp; omega
          obtain ⟨b9, o9, e9, cn⟩ := (HSR.out.ext XR.out) i hi2
          cases e9
          try rw [Nat.zero_add] at cn
          have hnmb := HSB.out ([n0].getD i []) (by rw [List.getD_eq_getElem?_getD, List.getElem?_eq_getElem (show i < [n0].length from hi2)]; exact List.getElem_mem _)
          obtain ⟨nm, hnm⟩ : ∃ nm, [n0].getD i [] = nm := ⟨_, rfl⟩
          rw [hnm] at cn hnmb
          have HNMB := Lib.hid hnmb
          clear hnm hnmb
          have hxA : Ext wr (wr.alloc (.cells #[.string ⟨#[]⟩, .int .i64 0, .int .i64 0] 55)) := (Below.refl _ _).alloc (Nat.le_refl _) _
          have hbA := heap_alloc_new wr (.cells #[.string ⟨#[]⟩, .int .i64 0, .int .i64 0] 55)
          have XA := Lib.hid (Ext.trans _ _ _ XR.out hxA)
          have HBA := Lib.hid (show Blk wr.heap.size #[.string ⟨#[]⟩, .int .i64 0, .int .i64 0] 55 (wr.alloc (.cells #[.string ⟨#[]⟩, .int .i64 0, .int .i64 0] 55)) (fun q => q = wr.heap.size) from ⟨hbA, fun _ => Iff.rfl⟩)
          have hpW : w5.heap.size ≤ wr.heap.size := XR.out.size
          clear hxA hbA XR
          go_wp2_with fail
          generalize wr.alloc (.cells #[.string ⟨#[]⟩, .int .i64 0, .int .i64 0] 55) = wA at HBA XA ⊢
          generalize wr.heap.size = pW at HBA hpW ⊢
          go_loopw [15, 69] (fun v15 v69 wq => ∃ (j : Nat) (f : Bool) (x : Ent), j ≤ L.length ∧ v69 = .int .i64 j ∧ v15 = .bool f ∧ Blk pW #[.string (strOfNums x.1), .int .i64 x.2.1, .int .i64 x.2.2] 55 wq (fun q => q = pW) ∧ Ext w5 wq ∧
            (f = true → ∃ i', i' < j ∧ L.getD i' e0 = x ∧ x.1 = nm) ∧ (f = false → x = e0 ∧ ∀ i', i' < j → (L.getD i' e0).1 ≠ nm)) (fun _ v _ => L.length - (intOf v).toNat)
          case atStart => exact ⟨0, false, e0, by omega, rfl, rfl, HBA.out, XA.out, (fun h => by cases h), (fun _ => ⟨rfl, fun i2 h => absurd h (by omega)⟩)⟩
          case round =>
            obtain ⟨j, f, x, hj, rfl, rfl, hbx, hxq, hft, hff⟩ := hrel
            have HBX := Lib.hid hbx
            have XQ := Lib.hid hxq
            have HFT := Lib.hid hft
            have HFF := Lib.hid hff
            clear hbx hxq hft hff HBA XA
            by_cases hj2 : j < L.length
            · exact absurd (show 0 < L.length by omega) hL0
            · obtain rfl : j = L.length := by omega
              have dj : decide ((L.length : Int) < (L.length : Int)) = false := by simp
              have HF := Lib.hid (find_c _ cv L nm wr (HREW.out.ext XQ.out) HC0.out HNM.out HNMB.out)
              go_wp2_with fail
              refine HF.out.mono ?_
              rintro e wf ⟨hf, hxf⟩
              clear HF
              rcases hf with ⟨i', hi', hn', rfl⟩ | ⟨hno, rfl⟩
              · cases f with
                | false => exact absurd hn' ((HFF.out rfl).2 i' hi')
                | true =>
                  obtain ⟨i2, hi2', hx2, hx3⟩ := HFT.out rfl
                  obtain rfl : i' = i2 := same_name HC0.out hi' hi2' (by rw [hn', hx2, hx3])
                  rw [hx2]
                  clear hx2 hx3 hn' hi' hi2' HFT HFF
                  have hx18 : Ext wf (wf.alloc (.cells #[.string (strOfNums x.1), .int .i64 x.2.1, .int .i64 x.2.2] 55)) := (Below.refl _ _).alloc (Nat.le_refl _) _
                  have hb18 := heap_alloc_new wf (.cells #[.string (strOfNums x.1), .int .i64 x.2.1, .int .i64 x.2.2] 55)
                  obtain ⟨w18, hw18⟩ : ∃ w18, wf.alloc (.cells #[.string (strOfNums x.1), .int .i64 x.2.1, .int .i64 x.2.2] 55) = w18 := ⟨_, rfl⟩
                  rw [hw18] at hx18 hb18
                  have a0 : w18.cell? ⟨wf.heap.size, 0, none⟩ = some (.string (strOfNums x.1)) := Blk.cell (S := fun q => q = wf.heap.size) ⟨hb18, fun _ => Iff.rfl⟩ 0
                  have a1 : w18.cell? ⟨wf.heap.size, 1, none⟩ = some (.int .i64 x.2.1) := Blk.cell (S := fun q => q = wf.heap.size) ⟨hb18, fun _ => Iff.rfl⟩ 1
                  have a2 : w18.cell? ⟨wf.heap.size, 2, none⟩ = some (.int .i64 x.2.2) := Blk.cell (S := fun q => q = wf.heap.size) ⟨hb18, fun _ => Iff.rfl⟩ 2
                  have hbq := Ext.keep (Lcl.blk _ _ _) (Ext.trans _ _ _ hxf hx18) HBX.out
                  have b0 : w18.cell? ⟨pW, 0, none⟩ = some (.string (strOfNums x.1)) := hbq.cell 0
                  have b1 : w18.cell? ⟨pW, 1, none⟩ = some (.int .i64 x.2.1) := hbq.cell 1
                  have b2 : w18.cell? ⟨pW, 2, none⟩ = some (.int .i64 x.2.2) := hbq.cell 2
                  have X18 := Lib.hid (Ext.trans _ _ _ XQ.out (Ext.trans _ _ _ hxf hx18))
                  clear hx18 hb18 hbq HBX XQ hxf
                  go_wp2_with fail
                  go_roundw
                  case rel => exact ⟨i + 1, by omega, by go_num, X18.out⟩
                  case measure => simp [intOf]; omega
              · cases f with
                | true =>
                  obtain ⟨i2, hi2', hx2, hx3⟩ := HFT.out rfl
                  exact absurd (by rw [hx2]; exact hx3) (hno i2 hi2')
                | false =>
                  have hxe := (HFF.out rfl).1
                  have hz : (Value.agg #[.string ⟨#[]⟩, .int .i64 0, .int .i64 0]) = .agg #[.string (strOfNums x.1), .int .i64 x.2.1, .int .i64 x.2.2] := by rw [hxe]; rfl
                  rw [hz]
                  clear HFT HFF hno hxe hz
                  have hx18 : Ext wf (wf.alloc (.cells #[.string (strOfNums x.1), .int .i64 x.2.1, .int .i64 x.2.2] 55)) := (Below.refl _ _).alloc (Nat.le_refl _) _
                  have hb18 := heap_alloc_new wf (.cells #[.string (strOfNums x.1), .int .i64 x.2.1, .int .i64 x.2.2] 55)
                  obtain ⟨w18, hw18⟩ : ∃ w18, wf.alloc (.cells #[.string (strOfNums x.1), .int .i64 x.2.1, .int .i64 x.2.2] 55) = w18 := ⟨_, rfl⟩
                  rw [hw18] at hx18 hb18
                  have a0 : w18.cell? ⟨wf.heap.size, 0, none⟩ = some (.string (strOfNums x.1)) := Blk.cell (S := fun q => q = wf.heap.size) ⟨hb18, fun _ => Iff.rfl⟩ 0
                  have a1 : w18.cell? ⟨wf.heap.size, 1, none⟩ = some (.int .i64 x.2.1) := Blk.cell (S := fun q => q = wf.heap.size) ⟨hb18, fun _ => Iff.rfl⟩ 1
                  have a2 : w18.cell? ⟨wf.heap.size, 2, none⟩ = some (.int .i64 x.2.2) := Blk.cell (S := fun q => q = wf.heap.size) ⟨hb18, fun _ => Iff.rfl⟩ 2
                  have hbq := Ext.keep (Lcl.blk _ _ _) (Ext.trans _ _ _ hxf hx18) HBX.out
                  have b0 : w18.cell? ⟨pW, 0, none⟩ = some (.string (strOfNums x.1)) := hbq.cell 0
                  have b1 : w18.cell? ⟨pW, 1, none⟩ = some (.int .i64 x.2.1) := hbq.cell 1
                  have b2 : w18.cell? ⟨pW, 2, none⟩ = some (.int .i64 x.2.2) := hbq.cell 2
                  have X18 := Lib.hid (Ext.trans _ _ _ XQ.out (Ext.trans _ _ _ hxf hx18))
                  clear hx18 hb18 hbq HBX XQ hxf
                  go_wp2_with fail
                  go_roundw
                  case rel => exact ⟨i + 1, by omega, by go_num, X18.out⟩
                  case measure => simp [intOf]; omega
        · obtain rfl : i = 1 := by omega
          go_wp2_with fail
          go_ret
          exact ⟨rfl, Ext.trans _ _ _ X7.out XR.out⟩
  · have hnb : ((N : Int) != 0) = true := by simp; omega
    have hnb2 : ¬ (N : Int) = 0 := by omega
    go_wp2_with fail
    go_ret
    exact ⟨rfl, X3.out⟩
end Go.Proofs.Ytfpeeilenocaoaa.Idx
