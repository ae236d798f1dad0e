/- Merge, walked: the counts of two, each with each. -/
import Derived.Test.YthemincohmgihaaCmsSplits
import Derived.Test.YthemincohmgihaaLit
namespace Go.Proofs.Ythemincohmgihaa.PCmsMerges
open Go Go.RowKit Go.Proofs.YthemincohmgihaaW.PrintWords Go.Proofs.Ythemincohmgihaa.Own Go.Proofs.Ythemincohmgihaa.Rely Go.Proofs.Ythemincohmgihaa.Lit
attribute [local go_sem] min_ints

theorem info_u32 : (Try.prog.info? 22).map (fun i => (i.zero, i.size, i.bytes)) = some (some (.int .u32 0), 1, 4) := by kernel_rfl
theorem src_of {w : World} {k : IntKind} {A : Option Addr} {xs : List Int} (h : Kd.C (Kd.int k) w A xs.length xs) : ∀ i, i < xs.length → ∃ ad, A = some ad ∧ w.cell? (ad.add i) = some (.int k (xs.getD i 0)) := by
  intro i hi
  obtain ⟨ad, e, hx⟩ := Kd.at_int h (i : Int) (Int.natCast_nonneg _) (Int.ofNat_lt.2 hi)
  refine ⟨ad, e, ?_⟩
  rw [Int.toNat_natCast] at hx
  unfold rd at hx
  rw [Int.toNat_natCast] at hx
  exact hx
theorem src_of' {w : World} {k : IntKind} {A : Option Addr} {xs : List Int} {n : Nat} (hn : xs.length = n) (h : Kd.C (Kd.int k) w A n xs) : ∀ i, i < n → ∃ ad, A = some ad ∧ w.cell? (ad.add i) = some (.int k (xs.getD i 0)) := by
  subst hn; exact src_of h
theorem ext_of {S1 : Nat → Prop} {w w' : World} (h : Step (fun _ => False) S1 w w') : Ext w w' := h.keep.below (Nat.le_refl _) (fun _ _ x => x)
theorem C_of_reads {w : World} {k : IntKind} {A : Option Addr} {xs : List Int} {n : Nat} (h : Reads w k A xs) (hn : xs.length = n) (hb : n ≤ 9223372036854775807) : Kd.C (Kd.int k) w A n xs := by
  refine ⟨hn, hb, fun h0 => ?_⟩
  obtain ⟨b, o, rfl, _, _⟩ := h 0 (by omega)
  refine ⟨_, rfl, fun j p hj => ⟨[.int k p], rfl, rfl, ?_⟩⟩
  have hjl := (List.getElem?_eq_some_iff.1 hj).1
  obtain ⟨b', o', e, _, hc⟩ := h j hjl
  injection e with e
  injection e with e1 e2 _
  subst e1 e2
  intro i u hu
  match i, hu with
  | 0, hu =>
    simp at hu
    subst hu
    show w.cell? ((⟨b, o, none⟩ : Addr).add (j * 1 + 0)) = _
    rw [Nat.mul_one, Nat.add_zero]
    rw [List.getD_eq_getElem?_getD, hj] at hc
    rw [add_lit']
    exact hc
  | i + 1, hu => simp at hu
theorem three_new (w : World) (x y z : Array Value) (t : TypeId) : Ext w (((w.alloc (.cells x t (0, 0))).alloc (.cells y t (0, 0))).alloc (.cells z t (0, 0))) ∧
    (((w.alloc (.cells x t (0, 0))).alloc (.cells y t (0, 0))).alloc (.cells z t (0, 0))).heap[w.heap.size]? = some (.cells x t (0, 0)) ∧
    (((w.alloc (.cells x t (0, 0))).alloc (.cells y t (0, 0))).alloc (.cells z t (0, 0))).heap[w.heap.size + 1]? = some (.cells y t (0, 0)) ∧
    (((w.alloc (.cells x t (0, 0))).alloc (.cells y t (0, 0))).alloc (.cells z t (0, 0))).heap[w.heap.size + 1 + 1]? = some (.cells z t (0, 0)) := by
  have s1 : (w.alloc (.cells x t (0, 0))).heap.size = w.heap.size + 1 := by simp
  have s2 : ((w.alloc (.cells x t (0, 0))).alloc (.cells y t (0, 0))).heap.size = w.heap.size + 1 + 1 := by simp
  refine ⟨Ext.trans _ _ _ (Ext.trans _ _ _ (ext_new _ _) (ext_new _ _)) (ext_new _ _), ?_, ?_, ?_⟩
  · rw [Below.heap_alloc _ _ _ (by omega), Below.heap_alloc _ _ _ (by omega)]; exact heap_alloc_new w _
  · rw [Below.heap_alloc _ _ _ (by omega), ← s1]; exact heap_alloc_new _ _
  · rw [← s2]; exact heap_alloc_new _ _
def mrg (L M : List Int) : List Int := List.zipWith pls L M

/-- So far: the first k as one, the others as they were. -/
def mid (L M : List Int) (k : Nat) : List Int := (mrg L M).take k ++ L.drop k
theorem mrg_length {L M : List Int} (h : M.length = L.length) : (mrg L M).length = L.length := by unfold mrg; rw [List.length_zipWith]; omega
theorem mid_length {L M : List Int} (h : M.length = L.length) (k : Nat) (hk : k ≤ L.length) : (mid L M k).length = L.length := by
  unfold mid; rw [List.length_append, List.length_take, List.length_drop, mrg_length h]; omega
theorem mid_zero (L M : List Int) : mid L M 0 = L := by simp [mid]
theorem mid_all {L M : List Int} (h : M.length = L.length) : mid L M L.length = mrg L M := by
  unfold mid; rw [List.drop_of_length_le (Nat.le_refl _), List.append_nil, List.take_of_length_le (by rw [mrg_length h]; exact Nat.le_refl _)]
theorem mid_at {L M : List Int} (h : M.length = L.length) {k : Nat} (hk : k < L.length) : (mid L M k).getD k 0 = L.getD k 0 := by
  have hl : ((mrg L M).take k).length = k := by rw [List.length_take, mrg_length h]; omega
  unfold mid
  rw [List.getD_eq_getElem?_getD, List.getElem?_append_right (by omega), hl, Nat.sub_self, List.getElem?_drop, Nat.add_zero, ← List.getD_eq_getElem?_getD]
theorem mid_step {L M : List Int} (h : M.length = L.length) {k : Nat} (hk : k < L.length) : (mid L M k).set k (pls (L.getD k 0) (M.getD k 0)) = mid L M (k + 1) := by
  have hl : ((mrg L M).take k).length = k := by rw [List.length_take, mrg_length h]; omega
  have hkm : k < M.length := by omega
  have hv : (mrg L M)[k]? = some (pls (L.getD k 0) (M.getD k 0)) := by
    unfold mrg
    rw [List.getElem?_zipWith, List.getElem?_eq_getElem hk, List.getElem?_eq_getElem hkm]
    simp [List.getD_eq_getElem?_getD, List.getElem?_eq_getElem hk, List.getElem?_eq_getElem hkm]
  unfold mid
  rw [List.set_append_right _ _ (by omega), hl, Nat.sub_self, List.drop_eq_getElem_cons hk, List.set_cons_zero, List.take_add_one, hv]
  simp
theorem heap_set_congr {w w' : World} {b i : Nat} {v : Value} (h : w'.heap[b]? = w.heap[b]?) : (w'.setCell ⟨b, i, none⟩ v).heap[b]? = (w.setCell ⟨b, i, none⟩ v).heap[b]? := by
  simp only [World.setCell, Array.getElem?_modify, h]
theorem heap_set_ne (w : World) {b k i : Nat} (v : Value) (h : k ≠ b) : (w.setCell ⟨b, i, none⟩ v).heap[k]? = w.heap[k]? := Below.heap_setCell w ⟨b, i, none⟩ v k h

set_option maxHeartbeats 4000000 in
theorem merge_c {R C : Nat} {L M : List Int} (gL : Good R C L) (gM : Good R C M) (w : World) (A : Option Addr) (c : Nat) (B : Option Addr) (d : Nat) (hC : Kd.C (Kd.int .u32) w A L.length L) (hc : L.length ≤ c) (hD : Kd.C (Kd.int .u32) w B M.length M) (hd : M.length ≤ d) :
    Calls Try.prog 35 #[.agg #[.int .i64 R, .int .i64 C, .slice A L.length c], .agg #[.int .i64 R, .int .i64 C, .slice B M.length d]] w fun e w' =>
      ∃ A' c', e = .returned (.agg #[.int .i64 R, .int .i64 C, .slice A' (mrg L M).length c']) ∧ (mrg L M).length ≤ c' ∧ Kd.C (Kd.int .u32) w' A' (mrg L M).length (mrg L M) ∧ Below w.heap.size w w' := by
  have hml : M.length = L.length := gM.len.trans gL.len.symm
  rw [hml] at hD hd ⊢
  have HML := Lib.hid hml
  have HC := Lib.hid hC
  have HD := Lib.hid hD
  have GL := Lib.hid gL
  have GM := Lib.hid gM
  have HL0 : RowKit.Hid (0 < L.length) := Lib.hid (by rw [gL.len]; exact Nat.mul_pos gL.r0 gL.c0)
  have HL1 : RowKit.Hid (L.length ≤ 2048) := Lib.hid (by rw [gL.len]; exact gL.rc)
  clear hC hD gL gM hml
  go_enter Try.func35, Try.ntmps35
  go_wp2_with fail
  have y3 := three_new w #[.int .i64 R, .int .i64 C, .slice A L.length c] #[.int .i64 R, .int .i64 C, .slice B L.length d] #[.int .i64 0, .int .i64 0, .slice none 0 0] 49
  have HB := Lib.hid y3
  clear y3
  generalize ((w.alloc (.cells #[.int .i64 R, .int .i64 C, .slice A L.length c] 49 (0, 0))).alloc (.cells #[.int .i64 R, .int .i64 C, .slice B L.length d] 49 (0, 0))).alloc (.cells #[.int .i64 0, .int .i64 0, .slice none 0 0] 49 (0, 0)) = w3 at HB ⊢
  obtain ⟨g2, hg2⟩ : ∃ g, g = w.heap.size := ⟨_, rfl⟩
  obtain ⟨g3, hg3⟩ : ∃ g, g = w.heap.size + 1 := ⟨_, rfl⟩
  obtain ⟨g4, hg4⟩ : ∃ g, g = w.heap.size + 1 + 1 := ⟨_, rfl⟩
  rw [← hg4] at HB ⊢
  rw [← hg3] at HB ⊢
  rw [← hg2] at HB ⊢
  have HG := Lib.hid (And.intro hg2 (And.intro hg3 hg4))
  clear hg2 hg3 hg4
  have B2 := Lib.hid (show Box3 w3 g2 (.int .i64 R) (.int .i64 C) (.slice A L.length c) from ⟨cell_of_row _ _ 0 _ _ _ HB.out.2.1, cell_of_row _ _ 1 _ _ _ HB.out.2.1, cell_of_row _ _ 2 _ _ _ HB.out.2.1⟩)
  have CL := Lib.hid (C_ext HC.out HB.out.1)
  obtain ⟨n0, hn⟩ : ∃ n, n = w3.heap.size := ⟨_, rfl⟩
  have hn0 := Lib.hid hn
  have hN := hn0
  clear hn
  refine wp_region_relyD (by kernel_rfl) (R0 n0 49 (Holds n0 22 .u32 (.int .i64 R) (.int .i64 C) L)) (R1 n0 49 (Holds n0 22 .u32 (.int .i64 R) (.int .i64 C) L)) 9 0 (fun _ _ h => h.sub) R0.refl (R0.trans (holds_later (by decide))) R1.refl (R1.trans (holds_later (by decide))) [[(2, none)], [(7, some 0)], [(2, none)], [(9, some 2)], [], [(2, none)], [(12, some 5)], [(11, some 4), (13, some 6)], [(8, some 1), (10, some 3), (14, some 7)], [], [(5, some 9), (15, some 8)]] [some 7, some 8, some 9, some 10, some 11, some 12, some 13, some 14, some 15, some 5, none] (by kernel_rfl) (by kernel_rfl) (by kernel_rfl) ?_
  -- 0: slot 7 := Op.fieldAddr 49 t2 0
  apply relyD_const (by decide) (by decide)
  case h =>
    intro wr hR a' h2 K hK
    go_wp2_with fail
    exact R0.refl _
  -- 1: slot 8 := Op.load 3 t7
  apply relyD_const (by decide) (by decide)
  case h =>
    intro wr hR a' h7 K hK
    have hX : Ext w3 wr := by have h := hR.undrew.1.below (by rw [hn0.out]; exact Nat.le_refl _); rw [hn0.out] at h; exact h
    obtain ⟨k0, k1, k2⟩ := B2.out.ext hX
    go_wp2_with fail
    exact R0.refl _
  -- 2: slot 9 := Op.fieldAddr 49 t2 1
  apply relyD_const (by decide) (by decide)
  case h =>
    intro wr hR a' h2 K hK
    go_wp2_with fail
    exact R0.refl _
  -- 3: slot 10 := Op.load 3 t9
  apply relyD_const (by decide) (by decide)
  case h =>
    intro wr hR a' h9 K hK
    have hX : Ext w3 wr := by have h := hR.undrew.1.below (by rw [hn0.out]; exact Nat.le_refl _); rw [hn0.out] at h; exact h
    obtain ⟨k0, k1, k2⟩ := B2.out.ext hX
    go_wp2_with fail
    exact R0.refl _
  -- 4: slot 11 := Op.buildSlice 47 0 #[]
  refine relyD_rel (by decide) (by decide) (fun v _ => ∃ b, v = .slice (some b) 0 0) (fun _ _ _ h _ => h) ?h4 ?_
  case h4 =>
    intro wr hR a' K hK
    have HK := Lib.hid hK
    clear hK
    go_wp2_with fail
    exact HK.out _ _ (R0.alloc (by decide)) ⟨_, rfl⟩
  -- 5: slot 12 := Op.fieldAddr 49 t2 2
  apply relyD_const (by decide) (by decide)
  case h =>
    intro wr hR a' h2 K hK
    go_wp2_with fail
    exact R0.refl _
  -- 6: slot 13 := Op.load 47 t12
  apply relyD_const (by decide) (by decide)
  case h =>
    intro wr hR a' h12 K hK
    have hX : Ext w3 wr := by have h := hR.undrew.1.below (by rw [hn0.out]; exact Nat.le_refl _); rw [hn0.out] at h; exact h
    obtain ⟨k0, k1, k2⟩ := B2.out.ext hX
    go_wp2_with fail
    exact R0.refl _
  -- 7: slot 14 := Op.call { builtin append, args := #[t11, t13], argTypes := #[47, 47] }
  refine relyD_rel (by decide) (by decide) (fun v wr => ∃ A' c', v = .slice A' L.length c' ∧ Fresh n0 22 .u32 (.slice A' L.length c') L wr) (fun _ _ _ ⟨A', c', e, h⟩ r => ⟨A', c', e, h.later r.1 (by decide)⟩) ?h7 ?_
  case h7 =>
    rintro wr hR a' v h11 ⟨b11, rfl⟩ h13 K hK
    have hX : Ext w3 wr := by have h := hR.undrew.1.below (by rw [hn0.out]; exact Nat.le_refl _); rw [hn0.out] at h; exact h
    have HK := Lib.hid hK
    have HN : RowKit.Hid (n0 ≤ wr.heap.size) := Lib.hid (by rw [hn0.out]; exact hX.size)
    have HS := Lib.hid (src_of (C_ext CL.out hX))
    clear hK
    go_wp2_with (at_builtin; refine lit_append _ rfl _ _ 47 rfl 22 .u32 4 Try.underlying47 info_u32 (by decide) b11 L A L.length c n0 h11 h13 rfl HL0.out HS.out (by have := HL1.out; omega) HN.out ?_; intro cap cs hcap hfr; have HFR := Lib.hid hfr; clear hfr)
    refine HK.out _ _ ?_ ⟨_, _, rfl, HFR.out⟩
    exact (R0.alloc (w := wr.drew) (by decide)).undrew
  -- 8: slot 15 := Op.build 49 #[(0, t8), (1, t10), (2, t14)]
  refine relyD_rel (by decide) (by decide) (fun v wr => ∃ A' c', v = .agg #[.int .i64 R, .int .i64 C, .slice A' L.length c'] ∧ Fresh n0 22 .u32 (.slice A' L.length c') L wr) (fun _ _ _ ⟨A', c', e, h⟩ r => ⟨A', c', e, h.later r.1 (by decide)⟩) ?h8 ?_
  case h8 =>
    rintro wr hR a' h8 h10 v h14 ⟨A', c', rfl, hf⟩ K hK
    have HK := Lib.hid hK
    have HF := Lib.hid hf
    clear hK hf
    have g8 := h8
    have g10 := h10
    have g14 := h14
    simp only [Array.getD_eq_getD_getElem?] at g8 g10 g14
    go_wp2_with fail
    exact HK.out _ _ (R0.refl _) ⟨_, _, rfl, HF.out⟩
  -- 9: slot 5 := Op.alloc 49
  refine relyD_the rfl (One n0 49) (fun _ _ _ h r => h.later r) ?h9 ?_
  case h9 =>
    intro wr hR a' K hK
    have HK := Lib.hid hK
    have ho := one_new hR.undrew hn0.out #[.int .i64 0, .int .i64 0, .slice none 0 0] rfl
    have HO := Lib.hid ho
    clear hK ho
    go_wp2_with fail
    exact HK.out _ _ HO.out.1 HO.out.2
  -- 10: slot None := Op.store 49 t5 t15
  refine relyD_rel (by decide) (by decide) (fun _ wr => ∃ b, At n0 49 wr b ∧ Put n0 49 b 22 .u32 (.int .i64 R) (.int .i64 C) L wr) (fun _ _ _ ⟨b, h1, h2⟩ r => ⟨b, h1.later r.1, h2.later (by decide) r.1⟩) ?h10 ?_
  case h10 =>
    rintro wr hR a' v h5 ⟨b, rfl, hb, ⟨y0, y1, y2, hh⟩, hu⟩ v' h15 ⟨A', c', rfl, hf⟩ K hK
    have HK := Lib.hid hK
    have HH := Lib.hid hh
    have HF := Lib.hid hf
    have d0 := cell_of_row wr b 0 _ _ _ hh
    have d1 := cell_of_row wr b 1 _ _ _ hh
    have d2 := cell_of_row wr b 2 _ _ _ hh
    have e0 := frozen_of_row wr b 0 _ _ hh
    have e1 := frozen_of_row wr b 1 _ _ hh
    have e2 := frozen_of_row wr b 2 _ _ hh
    clear hK hh hf hu
    go_wp2_with fail

    have hp := put_three (x0 := .int .i64 (R : Int)) (x1 := .int .i64 (C : Int)) hb HH.out HF.out (by decide)
    exact HK.out undef _ hp.1 ⟨b, hp.2⟩
  refine relyD_end ?_
  intro wr hR
  simp only [ends, Act.put, List.setIfInBounds_toArray, List.set_cons_zero, List.set_cons_succ]
  intro v11 hv11 v14 hv14 v15 hv15 v5 hv5 vn hput
  obtain ⟨b5, A5, c5, rfl, hb5, hc5, hh5, S1, hr5, hS1⟩ := one_put hv5 hput
  have hX : Ext w3 wr := by have h := hR.undrew.1.below (by rw [hn0.out]; exact Nat.le_refl _); rw [hn0.out] at h; exact h
  clear hv11 hv14 hv15 hv5 hput
  have hg3 : wr.heap[g3]? = some (.cells #[.int .i64 R, .int .i64 C, .slice B L.length d] 49 (0, 0)) := (hX.block g3 (Array.getElem?_eq_some_iff.1 HB.out.2.2.1).1).trans HB.out.2.2.1
  have hg4 : wr.heap[g4]? = some (.cells #[.int .i64 0, .int .i64 0, .slice none 0 0] 49 (0, 0)) := (hX.block g4 (Array.getElem?_eq_some_iff.1 HB.out.2.2.2).1).trans HB.out.2.2.2
  have l3 : g3 < n0 := by rw [hn0.out]; exact (Array.getElem?_eq_some_iff.1 HB.out.2.2.1).1
  have l4 : g4 < n0 := by rw [hn0.out]; exact (Array.getElem?_eq_some_iff.1 HB.out.2.2.2).1
  obtain ⟨e2, e3, e4⟩ := HG.out
  have hn9 : w.heap.size ≤ n0 := by rw [hn0.out]; exact HB.out.1.size
  have hne : ¬ S1 b5 := fun h => by
    rcases hr5.1.2 with ⟨e, _⟩ | ⟨g, cap, cur, e, _, hh, _⟩
    · have := (hr5.2 b5).1 h; rw [e] at this; simp [Value.ownBlock] at this
    · have := (hr5.2 b5).1 h
      rw [e] at this
      have : g = b5 := by simpa [Value.ownBlock] using this
      subst this
      rw [hh] at hh5
      injection hh5 with hh5
      injection hh5 with _ hh5
      exact absurd hh5 (by decide)
  have hsep : Sep (Row 22 .u32 (.slice A5 L.length c5) L) (Sep (Blk b5 #[.int .i64 R, .int .i64 C, .slice A5 L.length c5] 49) (Sep (Blk g3 #[.int .i64 R, .int .i64 C, .slice B L.length d] 49) (Blk g4 #[.int .i64 0, .int .i64 0, .slice none 0 0] 49))) wr
      (fun k => S1 k ∨ (k = b5 ∨ (k = g3 ∨ k = g4))) := by
    refine Sep.pair hr5 (Sep.pair ⟨hh5, fun _ => Iff.rfl⟩ (Sep.pair ⟨hg3, fun _ => Iff.rfl⟩ ⟨hg4, fun _ => Iff.rfl⟩ ?_) ?_) ?_
    · intro k h1 h2; omega
    · intro k h1 h2; omega
    · intro k h1 h2
      rcases h2 with h2 | h2
      · subst h2; exact hne h1
      · have := hS1 k h1; omega
  have hst : Step (fun _ => False) (fun k => S1 k ∨ (k = b5 ∨ (k = g3 ∨ k = g4))) w wr := ⟨.of_below (Ext.trans _ _ _ HB.out.1 hX), fun k hk => .inr (by
    rcases hk with hk | hk
    · have := hS1 k hk; omega
    · omega)⟩
  have hmid := mid_zero L M
  rw [← hmid] at hsep
  have H := Lib.hid hsep
  have ST := Lib.hid hst
  have hcb := Blk.cell (b := b5) (S := fun k => k = b5) ⟨hh5, fun _ => Iff.rfl⟩ 2
  have hcg := Blk.cell (b := g3) (S := fun k => k = g3) ⟨hg3, fun _ => Iff.rfl⟩ 2
  have cb : wr.cell? ⟨b5, 2, none⟩ = some (.slice A5 L.length c5) := hcb
  have cg : wr.cell? ⟨g3, 2, none⟩ = some (.slice B L.length d) := hcg
  clear hsep hst hmid hr5 hS1 hh5 hg3 hg4 l3 l4 e2 e3 e4 hne hX hb5 hcb hcg hR hn9
  generalize (fun k => S1 k ∨ (k = b5 ∨ (k = g3 ∨ k = g4))) = S at H ST
  go_wp2_with fail
  clear cb cg
  go_loopw [23] (fun v wr => ∃ (i : Nat) (S' : Nat → Prop), i ≤ L.length ∧ v = .int .i64 i ∧ Sep (Row 22 .u32 (.slice A5 L.length c5) (mid L M i)) (Sep (Blk b5 #[.int .i64 R, .int .i64 C, .slice A5 L.length c5] 49) (Sep (Blk g3 #[.int .i64 R, .int .i64 C, .slice B L.length d] 49) (Blk g4 #[.int .i64 0, .int .i64 0, .slice none 0 0] 49))) wr S' ∧ Step (fun _ => False) S' w wr) (fun v _ => L.length - (intOf v).toNat)
  case atStart => exact ⟨0, S, by omega, rfl, H.out, ST.out⟩
  case round =>
    clear H ST
    obtain ⟨i, S', hi, rfl, hw, hst⟩ := hrel
    by_cases hlt : i < L.length
    · have hml := mid_length HML.out i hi
      obtain ⟨T1, hT1, hTS⟩ := hw.left
      have hf1 := hT1.form (by omega)
      rw [hml] at hf1
      obtain ⟨g, cap, hve, hSg, hgl⟩ := hf1
      injection hve with hA _ hcap
      subst hA hcap
      obtain ⟨T2, hT2, _⟩ := hw.comm.left
      obtain ⟨T3, hT3, _⟩ := hT2.left
      obtain ⟨T4, hT4, _⟩ := hT2.comm.left
      obtain ⟨T5, hT5, _⟩ := hT4.left
      have X5 := Lib.hid (show wr.cell? ⟨b5, 2, none⟩ = some (.slice (some ⟨g, 0, none⟩) L.length c5) from hT3.cell 2)
      have X3 := Lib.hid (show wr.cell? ⟨g3, 2, none⟩ = some (.slice B L.length d) from hT5.cell 2)
      have hx0 := hT1.cell (i := i) (by omega)
      rw [mid_at HML.out hlt] at hx0
      have hfr := hT1.free i
      have HGL : RowKit.Hid (g < wr.heap.size) := Lib.hid hgl
      have FF : RowKit.Hid (∀ w', Ext wr w' → w'.frozen? ⟨g, i, none⟩ = false) := Lib.hid (fun w' h => (World.frozen?_of_block (h.block g hgl)).trans hfr)
      obtain ⟨ad, rfl, hxb⟩ := src_of' HML.out (C_ext HD.out (ext_of hst)) i hlt
      obtain ⟨x, hx⟩ : ∃ x : Int, x = L.getD i 0 := ⟨_, rfl⟩
      have hxm : i < M.length := by rw [HML.out]; exact hlt
      obtain ⟨y, hy⟩ : ∃ y : Int, y = M.getD i 0 := ⟨_, rfl⟩
      have HXY : RowKit.Hid (0 ≤ x ∧ x ≤ 4294967295 ∧ 0 ≤ y ∧ y ≤ 4294967295) := by
        have h1 := GL.out.range (i : Int)
        have h2 := GM.out.range (i : Int)
        unfold rd at h1 h2
        rw [Int.toNat_natCast] at h1 h2
        rw [hx, hy]
        exact ⟨h1.1, h1.2, h2.1, h2.2⟩
      have HMS : RowKit.Hid ((mid L M i).set i (pls x y) = mid L M (i + 1)) := Lib.hid (by rw [hx, hy]; exact mid_step HML.out hlt)
      rw [← hx] at hx0
      rw [← hy] at hxb
      have X0 := Lib.hid hx0
      have XB := Lib.hid hxb
      have HV := Lib.hid hw
      have ST := Lib.hid hst
      have HTS : RowKit.Hid (S' g) := Lib.hid (hTS g ((hSg g).2 rfl))
      clear hx hy hx0 hxb hw hst hT1 hT2 hT3 hT4 hT5 hfr hgl hxm hml hSg hTS
      obtain ⟨ws, hws⟩ : ∃ ws, ws = wr := ⟨_, rfl⟩
      subst hws
      have hib : L.length ≤ 2048 := HL1.out
      have hi0 : (0 : Int) ≤ (i : Int) := Int.natCast_nonneg _
      have hi1 : (i : Int) < (L.length : Int) := Int.ofNat_lt.2 hlt
      go_wp2_with fail
      refine wp_region_relyD (by kernel_rfl) Ext (RB g (fun o => o = (ws.setCell ⟨g, i, none⟩ (.int .u32 (pls x y))).heap[g]?)) 15 32767 RB.ext Ext.refl Ext.trans (RB.refl _ _) (RB.trans _ _) [[(5, none)], [(26, some 0)], [(6, none)], [(5, none)], [(29, some 3)], [(6, none)], [(30, some 4), (31, some 5)], [(32, some 6)], [(3, none)], [(34, some 8)], [(6, none)], [(35, some 9), (36, some 10)], [(37, some 11)], [(33, some 7), (38, some 12)], [(27, some 1), (28, some 2)], [(40, some 14), (39, some 13)]] [some 26, some 27, some 28, some 29, some 30, some 31, some 32, some 33, some 34, some 35, some 36, some 37, some 38, some 39, some 40, none] (by kernel_rfl) (by kernel_rfl) (by kernel_rfl) ?_
      -- 0: slot 26 := Op.fieldAddr 49 t5 2
      apply relyD_const_e (by decide) (by decide); case h => (intro wr hR a' h5 K hK; go_wp2_with fail; exact Ext.refl _)
      -- 1: slot 27 := Op.load 47 t26
      apply relyD_const_e (by decide) (by decide); case h => (intro wr hR a' h26 K hK; have k5 := hR.undrew.cell X5.out; go_wp2_with fail; exact Ext.refl _)
      -- 2: slot 28 := Op.move t6
      apply relyD_const_e (by decide) (by decide); case h => (intro wr hR a' h6 K hK; go_wp2_with fail; exact Ext.refl _)
      -- 3: slot 29 := Op.fieldAddr 49 t5 2
      apply relyD_const_e (by decide) (by decide); case h => (intro wr hR a' h5 K hK; go_wp2_with fail; exact Ext.refl _)
      -- 4: slot 30 := Op.load 47 t29
      apply relyD_const_e (by decide) (by decide); case h => (intro wr hR a' h29 K hK; have k5 := hR.undrew.cell X5.out; go_wp2_with fail; exact Ext.refl _)
      -- 5: slot 31 := Op.move t6
      apply relyD_const_e (by decide) (by decide); case h => (intro wr hR a' h6 K hK; go_wp2_with fail; exact Ext.refl _)
      -- 6: slot 32 := Op.indexAddr 47 t30 t31
      apply relyD_const_e (by decide) (by decide); case h => (intro wr hR a' h30 h31 K hK; go_wp2_with fail; exact Ext.refl _)
      -- 7: slot 33 := Op.load 22 t32
      apply relyD_const_e (by decide) (by decide); case h => (intro wr hR a' h32 K hK; have k6 := hR.undrew.cell X0.out; go_wp2_with fail; exact Ext.refl _)
      -- 8: slot 34 := Op.fieldAddr 49 t3 2
      apply relyD_const_e (by decide) (by decide); case h => (intro wr hR a' h3 K hK; go_wp2_with fail; exact Ext.refl _)
      -- 9: slot 35 := Op.load 47 t34
      apply relyD_const_e (by decide) (by decide); case h => (intro wr hR a' h34 K hK; have k7 := hR.undrew.cell X3.out; go_wp2_with fail; exact Ext.refl _)
      -- 10: slot 36 := Op.move t6
      apply relyD_const_e (by decide) (by decide); case h => (intro wr hR a' h6 K hK; go_wp2_with fail; exact Ext.refl _)
      -- 11: slot 37 := Op.indexAddr 47 t35 t36
      apply relyD_const_e (by decide) (by decide); case h => (intro wr hR a' h35 h36 K hK; go_wp2_with fail; exact Ext.refl _)
      -- 12: slot 38 := Op.load 22 t37
      apply relyD_const_e (by decide) (by decide); case h => (intro wr hR a' h37 K hK; have k8 := hR.undrew.cell XB.out; go_wp2_with fail; exact Ext.refl _)
      -- 13: slot 39 := Op.call { value (Operand.func 16), args := #[t33, t38], argTypes := #[22, 22] }
      apply relyD_const_e (by decide) (by decide)
      case h =>
        intro wr hR a' h33 h38 K hK
        go_wp2_with fail
        refine (cms_Plus.calls x y (pls x y) wr (plus_f HXY.out.1 HXY.out.2.1 HXY.out.2.2.1 HXY.out.2.2.2)).mono ?_
        rintro e w2 ⟨rfl, hb⟩
        go_wp2_with fail
        exact hb.below
      -- 14: slot 40 := Op.indexAddr 47 t27 t28
      apply relyD_const_e (by decide) (by decide); case h => (intro wr hR a' h27 h28 K hK; go_wp2_with fail; exact Ext.refl _)
      -- 15: slot None := Op.store 22 t40 t39
      refine relyD_the rfl (fun _ wr => wr.heap[g]? = (ws.setCell ⟨g, i, none⟩ (.int .u32 (pls x y))).heap[g]?) (fun _ w w' h r => ?_) ?h15 ?_
      case h15 =>
        intro wr hR a' h40 h39 K hK
        have hE := hR.undrew
        have kf := FF.out wr hE
        have k6 := hE.cell X0.out
        have HK := Lib.hid hK
        have HE := Lib.hid hE
        clear hK hE
        go_wp2_with fail
        have hgl : g < ws.heap.size := HGL.out
        have hc := heap_set_congr (i := i) (v := .int .u32 (pls x y)) (HE.out.block g hgl)
        refine HK.out undef _ ⟨rfl, rfl, rfl, by rw [size_setCell]; exact Nat.le_refl _, fun k _ hne => heap_set_ne wr _ hne, fun _ => .inr hc⟩ hc
      · rcases Nat.lt_or_ge g w.heap.size with hlt | hge
        · exact r.stays hlt h
        · exfalso
          rw [Array.getElem?_eq_none hge] at h
          have h1 : g < (ws.setCell ⟨g, i, none⟩ (.int .u32 (pls x y))).heap.size := by rw [size_setCell]; exact HGL.out
          rw [Array.getElem?_eq_getElem h1] at h
          cases h
      refine relyD_end ?_
      intro wr hR
      simp only [ends, Act.put, List.setIfInBounds_toArray, List.set_cons_zero, List.set_cons_succ]
      intro vn hv
      have hE := hR.undrew
      clear hR
      have HE := Lib.hid hE
      have HVV := Lib.hid hv
      clear hE hv
      go_wp2_with fail
      have hs := sepSet ((Lcl.blk _ _ _).sep ((Lcl.blk _ _ _).sep (Lcl.blk _ _ _))) HV.out i (pls x y)
      have hq := ((Lcl.row _ _ _ _).sep ((Lcl.blk _ _ _).sep ((Lcl.blk _ _ _).sep (Lcl.blk _ _ _)))).keep (w' := wr) hs.1 fun k hk => ?keepq
      case keepq =>
        by_cases hkg : k = g
        · subst hkg; exact HVV.out
        · have hlt := (((Lcl.row _ _ _ _).sep ((Lcl.blk _ _ _).sep ((Lcl.blk _ _ _).sep (Lcl.blk _ _ _))))).lt HV.out hk
          rw [heap_set_ne ws _ hkg]
          exact HE.out.block k hlt hkg
      have hgS : S' g := HTS.out
      have hstep : Step S' S' ws wr := ⟨⟨HE.out.os, HE.out.tape, HE.out.output, HE.out.size, fun k hk hn => HE.out.block k hk (fun e => hn (by rw [e]; exact hgS))⟩, fun k hk => .inl hk⟩
      rw [HMS.out] at hq
      go_roundw
      case rel => exact ⟨i + 1, S', by omega, rfl, hq, ST.out.trans hstep⟩
      case measure => first | (simp [intOf]; done) | (simp [intOf]; omega)
    · obtain rfl : i = L.length := by omega
      rw [mid_all HML.out] at hw
      obtain ⟨T2, hT2, _⟩ := hw.comm.left
      obtain ⟨T3, hT3, _⟩ := hT2.left
      obtain ⟨T4, hT4, _⟩ := hT2.comm.left
      obtain ⟨T6, hT6, _⟩ := hT4.comm.left
      have c0 : wr.cell? ⟨b5, 0, none⟩ = some (.int .i64 R) := hT3.cell 0
      have c1 : wr.cell? ⟨b5, 1, none⟩ = some (.int .i64 C) := hT3.cell 1
      have c2 : wr.cell? ⟨b5, 2, none⟩ = some (.slice A5 L.length c5) := hT3.cell 2
      have d0 : wr.cell? ⟨g4, 0, none⟩ = some (.int .i64 0) := hT6.cell 0
      have d1 : wr.cell? ⟨g4, 1, none⟩ = some (.int .i64 0) := hT6.cell 1
      have d2 : wr.cell? ⟨g4, 2, none⟩ = some (.slice none 0 0) := hT6.cell 2
      have f0 := hT6.free 0
      have f1 := hT6.free 1
      have f2 := hT6.free 2
      have HV := Lib.hid hw
      have ST := Lib.hid hst
      clear hw hst hT2 hT3 hT4 hT6
      go_wp2_with fail
      obtain ⟨Sa, Sb, hrow, hrest, hdis, hiff⟩ := HV.out
      obtain ⟨U1, hU1, hs1⟩ := hrest.comm.left
      obtain ⟨U2, hU2, hs2⟩ := hU1.comm.left
      have q1 := Blk.set hU2 0 (.int .i64 (R : Int))
      have q2 := Blk.set q1.1 1 (.int .i64 (C : Int))
      have q3 := Blk.set q2.1 2 (.slice A5 L.length c5)
      have hst4 := (q1.2.trans q2.2).trans q3.2
      have q4 := q3.1
      clear q1 q2 q3 c0 c1 c2 d0 d1 d2 f0 f1 f2
      generalize ((wr.setCell ⟨g4, 0, none⟩ (.int .i64 R)).setCell ⟨g4, 1, none⟩ (.int .i64 C)).setCell ⟨g4, 2, none⟩ (.slice A5 L.length c5) = w9 at q4 hst4 ⊢
      have hrow9 := (Lcl.row _ _ _ _).keep hrow fun k hk => hst4.keep.block k ((Lcl.row _ _ _ _).lt hrow hk) (fun x => hdis k hk (hs1 _ (hs2 _ x)))
      have hext : Ext w w9 := ext_of ((ST.out).trans ⟨hst4.keep.mono (T := S') (fun k _ hk => (hiff k).2 (.inr (hs1 _ (hs2 _ hk)))), fun k hk => .inl hk⟩)
      obtain ⟨A6, c6, e6, hc6, hr6, _⟩ := hrow9.reads
      have r0 : w9.cell? ⟨g4, 0, none⟩ = some (.int .i64 R) := q4.cell 0
      have r1 : w9.cell? ⟨g4, 1, none⟩ = some (.int .i64 C) := q4.cell 1
      have r2 : w9.cell? ⟨g4, 2, none⟩ = some (.slice A5 L.length c5) := q4.cell 2
      refine bodyPost_ret (results_cell_row rfl _ _ g4 49 #[.int .i64 R, .int .i64 C, .slice A5 L.length c5] (0, 0) _ rfl q4.1 Try.underlying49 rfl (by kernel_rfl)) rfl ?_
      rw [mrg_length HML.out] at e6 hc6 ⊢
      injection e6 with e7 _ e8
      subst e7 e8
      exact ⟨_, _, rfl, hc6, C_of_reads hr6 (mrg_length HML.out) (by have := HL1.out; omega), hext⟩
end Go.Proofs.Ythemincohmgihaa.PCmsMerges
