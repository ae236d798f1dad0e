/- Most, walked: the least of a hash's counts. -/
import Derived.Test.YthemincohmgihaaCmsRow
import Derived.Test.YthemincohmgihaaRely
namespace Go.Proofs.Ythemincohmgihaa.PCmsMerges
open Go Go.RowKit Go.Proofs.YthemincohmgihaaW.PrintWords Go.Proofs.Ythemincohmgihaa.Own Go.Proofs.Ythemincohmgihaa.Rely
attribute [local go_sem] min_ints

/-- A struct of three cells that lies in a block of its own, told by its cells. -/
def Box3 (w : World) (b : Nat) (v0 v1 v2 : Value) : Prop := w.cell? ⟨b, 0, none⟩ = some v0 ∧ w.cell? ⟨b, 1, none⟩ = some v1 ∧ w.cell? ⟨b, 2, none⟩ = some v2
theorem Box3.ext {w w' : World} {b : Nat} {v0 v1 v2 : Value} (h : Box3 w b v0 v1 v2) (e : Ext w w') : Box3 w' b v0 v1 v2 := ⟨e.cell h.1, e.cell h.2.1, e.cell h.2.2⟩
theorem box3_new (w : World) (v0 v1 v2 : Value) (t : TypeId) : Box3 (w.alloc (.cells #[v0, v1, v2] t (0, 0))) w.heap.size v0 v1 v2 :=
  ⟨cell_of_row _ _ 0 _ _ _ (blk_new w _), cell_of_row _ _ 1 _ _ _ (blk_new w _), cell_of_row _ _ 2 _ _ _ (blk_new w _)⟩
theorem ext_new (w : World) (o : Obj) : Ext w (w.alloc o) := below_alloc (Below.refl _ _) _
theorem C_ext {α : Type} {d : Kd α} {w w' : World} {A : Option Addr} {n : Nat} {xs : List α} (h : Kd.C d w A n xs) (e : Ext w w') : Kd.C d w' A n xs := Kd.C_below h e

/-- The least count of a hash over the first rows. -/
theorem rd_at {R C : Nat} {L : List Int} (g : Good R C L) (h : Int) {r : Nat} (hr : r < R) : ∃ p : Nat, pl C h r = p ∧ (p < C ∧ r * C + p < L.length) ∧
    wrap64 (wrap64 ((r : Int) * (C : Int)) + (p : Int)) = ((r * C + p : Nat) : Int) ∧ least C h L (r + 1) = min (least C h L r) (rd L ((r * C + p : Nat) : Int)) := by
  obtain ⟨p, hp, hpC, hlt, hw⟩ := place_nat g h hr
  refine ⟨p, hp, ⟨hpC, hlt⟩, ?_, ?_⟩
  · rw [hp] at hw; exact hw
  · simp only [least]
    rw [hp, ← Int.natCast_add]
    unfold mn
    generalize rd L _ = x
    generalize least C h L r = y
    omega

set_option maxHeartbeats 4000000 in
theorem most_c {R C : Nat} {L : List Int} (g : Good R C L) (h : Int) (w : World) (A : Option Addr) (c : Nat) (hC : Kd.C (Kd.int .u32) w A L.length L) (hc : L.length ≤ c) :
    Calls Try.prog 31 #[.agg #[.int .i64 R, .int .i64 C, .slice A L.length c], .int .u64 h] w fun e w' => e = .returned (.int .u32 (least C h L R)) ∧ Below w.heap.size w w' := by
  have HC := Lib.hid hC
  have G := Lib.hid g
  have hR8 := g.r1
  clear hC g
  go_enter Try.func31, Try.ntmps31
  go_wp2_with fail
  have B := Lib.hid (box3_new w (.int .i64 R) (.int .i64 C) (.slice A L.length c) 49)
  have X := Lib.hid (ext_new w (.cells #[.int .i64 R, .int .i64 C, .slice A L.length c] 49 (0, 0)))
  generalize w.alloc (.cells #[.int .i64 R, .int .i64 C, .slice A L.length c] 49 (0, 0)) = w1 at B X ⊢
  generalize w.heap.size = gb at B ⊢
  refine (cms_Cms_Check.calls 1 R C A c L 0 w1 (C_ext HC.out X.out) hc (check_f G.out 1 (by omega))).mono ?_
  rintro e w2 ⟨rfl, hb⟩
  have B2 := Lib.hid (B.out.ext hb)
  have X2 := Lib.hid (Ext.trans _ _ _ X.out hb)
  clear hb X B
  obtain ⟨b0, b1, b2⟩ := B2.out
  go_wp2_with fail
  clear b0 b1 b2
  go_loopw [5, 12] (fun v5 v12 wr => ∃ r : Nat, v5 = .int .u32 (least C h L r) ∧ v12 = .int .i64 r ∧ r ≤ R ∧ Box3 wr gb (.int .i64 R) (.int .i64 C) (.slice A L.length c) ∧ Ext w wr) (fun _ v12 _ => R - (intOf v12).toNat)
  case atStart => exact ⟨0, rfl, rfl, Nat.zero_le _, B2.out, X2.out⟩
  case round =>
    clear B2 X2
    obtain ⟨r, rfl, rfl, hr, hbr, hxr⟩ := hrel
    have BR := Lib.hid hbr
    have XR := Lib.hid hxr
    clear hbr hxr
    by_cases hlt : r < R
    · have hpf0 := place_f (C := (C : Int)) R L h r (by have := G.out.c0; omega) (by have := G.out.c1; omega)
      obtain ⟨p, hp0, ⟨hpC, hpL⟩, hw0, hl0⟩ := rd_at G.out h hlt
      obtain ⟨q, hq⟩ : ∃ q : Int, q = least C h L r := ⟨_, rfl⟩
      obtain ⟨ad, eA, hx⟩ := Kd.at_int HC.out ((r * C + p : Nat) : Int) (Int.natCast_nonneg _) (Int.ofNat_lt.2 hpL)
      cases eA
      rw [hp0] at hpf0
      have HPF := Lib.hid hpf0
      have hi0 : (0 : Int) ≤ ((r * C + p : Nat) : Int) := Int.natCast_nonneg _
      have hi1 : ((r * C + p : Nat) : Int) < (L.length : Int) := Int.ofNat_lt.2 hpL
      obtain ⟨i, hi⟩ : ∃ i : Nat, i = r * C + p := ⟨_, rfl⟩
      rw [← hi] at hi0 hi1 hw0 hx hl0
      rw [Int.toNat_natCast] at hx
      obtain ⟨z, hz⟩ : ∃ z : Int, z = rd L (i : Int) := ⟨_, rfl⟩
      rw [← hz] at hx hl0
      rw [← hq] at hl0
      have HL0 := Lib.hid hl0
      have HX := Lib.hid (Ext.cell XR.out hx)
      rw [← hq]
      clear hpf0 hp0 hl0 hx hq hz hi hpL hpC
      go_wp2_with fail
      refine wp_region_rely (by kernel_rfl) Ext Ext.refl Ext.trans [[(5, none)], [(2, none)], [(16, some 1)], [(6, none)], [(2, none)], [(19, some 4)], [(18, some 3), (20, some 5)], [(2, none)], [(1, none)], [(6, none)], [(22, some 7), (23, some 8), (24, some 9)], [(21, some 6), (25, some 10)], [(17, some 2), (26, some 11)], [(27, some 12)], [(15, some 0), (28, some 13)], [(29, some 14)]] [some 15, some 16, some 17, some 18, some 19, some 20, some 21, some 22, some 23, some 24, some 25, some 26, some 27, some 28, some 29, some 5] (by kernel_rfl) (by kernel_rfl) ?_
      -- 0: slot 15 := Op.move t5
      apply rely_const; case h => (intro wr hR a h5 K hK; go_wp2_with fail; exact Ext.refl _)
      -- 1: slot 16 := Op.fieldAddr 49 t2 2
      apply rely_const; case h => (intro wr hR a h2 K hK; go_wp2_with fail; exact Ext.refl _)
      -- 2: slot 17 := Op.load 47 t16
      apply rely_const; case h => (intro wr hR a h16 K hK; obtain ⟨k0, k1, k2⟩ := BR.out.ext hR.undrew; go_wp2_with fail; exact Ext.refl _)
      -- 3: slot 18 := Op.move t6
      apply rely_const; case h => (intro wr hR a h6 K hK; go_wp2_with fail; exact Ext.refl _)
      -- 4: slot 19 := Op.fieldAddr 49 t2 1
      apply rely_const; case h => (intro wr hR a h2 K hK; go_wp2_with fail; exact Ext.refl _)
      -- 5: slot 20 := Op.load 3 t19
      apply rely_const; case h => (intro wr hR a h19 K hK; obtain ⟨k0, k1, k2⟩ := BR.out.ext hR.undrew; go_wp2_with fail; exact Ext.refl _)
      -- 6: slot 21 := Op.binOp BinOp.mul 3 t18 t20 3
      apply rely_const; case h => (intro wr hR a h18 h20 K hK; go_wp2_with fail; exact Ext.refl _)
      -- 7: slot 22 := Op.load 49 t2
      apply rely_const; case h => (intro wr hR a h2 K hK; obtain ⟨k0, k1, k2⟩ := BR.out.ext hR.undrew; go_wp2_with fail; exact Ext.refl _)
      -- 8: slot 23 := Op.move t1
      apply rely_const; case h => (intro wr hR a h1 K hK; go_wp2_with fail; exact Ext.refl _)
      -- 9: slot 24 := Op.move t6
      apply rely_const; case h => (intro wr hR a h6 K hK; go_wp2_with fail; exact Ext.refl _)
      -- 10: slot 25 := Op.call { value (Operand.func 29), args := #[t22, t23, t24], argTypes := #[49, 24, 3] }
      apply rely_const
      case h =>
        intro wr hR a h22 h23 h24 K hK
        go_wp2_with fail
        refine (cms_Cms_Place.calls R C (some ad) c L h r p _ (C_ext HC.out (Ext.trans _ _ _ XR.out hR.undrew)) hc HPF.out).mono ?_
        rintro e w2 ⟨rfl, hb⟩
        go_wp2_with fail
        exact hb
      -- 11: slot 26 := Op.binOp BinOp.add 3 t21 t25 3
      apply rely_const; case h => (intro wr hR a h21 h25 K hK; go_wp2_with fail; exact Ext.refl _)
      -- 12: slot 27 := Op.indexAddr 47 t17 t26
      apply rely_const; case h => (intro wr hR a h17 h26 K hK; obtain ⟨k0, k1, k2⟩ := BR.out.ext hR.undrew; go_wp2_with fail; exact Ext.refl _)
      -- 13
      apply rely_const; case h => (intro wr hR a h27 K hK; have hx := hR.undrew.cell HX.out; go_wp2_with fail; exact Ext.refl _)
      -- 14: slot 29 := Op.call { builtin min, args := #[t15, t28], argTypes := #[22, 22] }
      apply rely_const; case h => (intro wr hR a h15 h28 K hK; go_wp2_with fail; exact Ext.refl _)
      -- 15: slot 5 := Op.assign t29
      apply rely_const; case h => (intro wr hR a h29 K hK; go_wp2_with fail; exact Ext.refl _)
      refine rely_end ?_
      intro wr hR
      simp only [ends, Act.put, List.setIfInBounds_toArray, List.set_cons_zero, List.set_cons_succ]

      go_wp2_with fail
      go_roundw
      case rel => exact ⟨r + 1, by rw [HL0.out], rfl, hlt, BR.out.ext hR.undrew, Ext.trans _ _ _ XR.out hR.undrew⟩
      case measure => simp [intOf]; omega
    · obtain rfl : r = R := by omega
      go_wp2_with fail
      go_ret
      exact ⟨rfl, XR.out⟩
end Go.Proofs.Ythemincohmgihaa.PCmsMerges
