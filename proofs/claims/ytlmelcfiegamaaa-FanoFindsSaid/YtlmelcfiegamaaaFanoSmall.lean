/- P6.1, P6.2, without the document's answer: numbers have few bits each, however far they go. -/
import Derived.Test.YtlmelcfiegamaaaFanoR
namespace Go.Proofs.Ytlmelcfiegamaaa.Fano
open Go.RowKit Go.Proofs.Ytlmelcfiegamaaa.Own Go.Proofs.Ytlmelcfiegamaaa.Rely Go.Proofs.Ytlmelcfiegamaaa.Bits
attribute [local go_sem] max_ints min_ints

theorem lowG_min (m x : Nat) : ∀ f k, (∀ j, j < k → m ≤ x / 2 ^ (j + 1)) → ∀ j, j < lowG f m x k → m ≤ x / 2 ^ (j + 1)
  | 0, k, h => h
  | f + 1, k, h => by
    unfold lowG
    split
    · rename_i h1
      refine lowG_min m x f (k + 1) (fun j hj => ?_)
      by_cases he : j = k
      · subst he; exact h1
      · exact h j (by omega)
    · exact h
theorem lowF_le {l : List Int} (h0 : 0 < l.length) {k : Nat} (hk : lastN l / 2 ^ k < l.length) : lowF l ≤ k := by
  rcases Nat.lt_or_ge k (lowF l) with h | h
  · exfalso
    have hm : ∀ j, j < lowF l → l.length ≤ lastN l / 2 ^ (j + 1) := by
      unfold lowF lowerN
      rw [if_neg (by omega)]
      exact lowG_min _ _ 32 0 (fun j hj => absurd hj (Nat.not_lt_zero j))
    cases k with
    | zero =>
      have h1 := hm 0 (by omega)
      have h2 : lastN l / 2 ^ (0 + 1) ≤ lastN l / 2 ^ 0 := by rw [Nat.pow_zero, Nat.div_one]; exact Nat.div_le_self _ _
      omega
    | succ k => have := hm k (by omega); omega
  · exact h
theorem small_size {l : List Int} (hn : NF l) (hu : U32s l) (h0 : 0 < l.length) (hl : l.length ≤ 60) :
    (lowsF l).length ≤ 300 ∧ (highF l).length ≤ 300 ∧ (rowB l).length ≤ 700 ∧ ∀ k, lastN l / 2 ^ k < l.length → 8 * (rowB l).length ≤ l.length * (k + 4) + 100 := by
  have hlast := hu.at (i := l.length - 1) (by omega)
  have hX : lastN l < 4294967296 := by unfold lastN val; omega
  have h31 := (lowerN_spec (m := l.length) h0 hX).1
  have hup := up_bound hn hu (i := l.length - 1) (by omega)
  have e1 : (lowsF l).length = (l.length * lowF l + 7) / 8 := by unfold lowsF; rw [pack_length, lowT_len]
  have ew : wasN (lowF l) l l.length = upN (lowF l) l (l.length - 1) := by
    obtain ⟨d, hd⟩ : ∃ d, l.length = d + 1 := ⟨l.length - 1, by omega⟩
    rw [hd]; rfl
  have e2 : (highF l).length = (l.length + upN (lowF l) l (l.length - 1) + 7) / 8 := by unfold highF; rw [pack_length, highT_len hn _ _ (Nat.le_refl _), ew]
  change lowF l ≤ 31 at h31
  have n1 : l.length * lowF l ≤ 60 * 31 := Nat.mul_le_mul hl h31
  have b1 : (lowsF l).length ≤ 300 := by omega
  have b2 : (highF l).length ≤ 300 := by omega
  have c1 : (Wire.enc l.length).length ≤ 1 := Wire.enc_len 1 _ (by omega) (by decide)
  have c2 : (Wire.enc (lastN l)).length ≤ 5 := Wire.enc_len 5 _ (by omega) (by decide)
  have c3 : (Wire.enc (highF l).length).length ≤ 2 := Wire.enc_len 2 _ (by omega) (by decide)
  have er : (rowB l).length = (Wire.enc l.length).length + (Wire.enc (lastN l)).length + (lowsF l).length + (Wire.enc (highF l).length).length + (highF l).length := by
    unfold rowB; simp only [List.length_append]
  refine ⟨b1, b2, by omega, fun k hk => ?_⟩
  have n2 : l.length * lowF l ≤ l.length * k := Nat.mul_le_mul_left _ (lowF_le h0 hk)
  rw [Nat.mul_add]
  omega
theorem last_c (a0 a1 a2 a3 a4 : Value) (x : Nat) (h : a1 = .int .u32 x) (w : World) :
    Calls Try.prog 19 #[.agg #[a0, a1, a2, a3, a4]] w fun e w' => e = .returned (.int .u32 x) ∧ Ext w w' := by
  subst h
  go_enter Try.func19, Try.ntmps19
  go_wp2_with fail
  go_ret
  exact ⟨rfl, (Below.refl _ _).alloc (Nat.le_refl _) _⟩
theorem wlen_c (q : Nat) (L : List Int) (w : World) (S : Nat → Prop) (h : Wire.Wr q L w S) :
    Calls Try.prog 20 #[.pointer (some ⟨q, 0, none⟩)] w fun e w' => e = .returned (.int .i64 L.length) ∧ w = w' := by
  obtain ⟨v, S1, S2, hrow, hblk, _⟩ := h
  obtain ⟨A, c, rfl⟩ : ∃ A c, v = .slice A L.length c := by
    rcases hrow.1.2 with hn | ⟨g, cap, cur, e, _⟩
    · exact ⟨none, 0, hn.1.trans (by rw [hn.2])⟩
    · exact ⟨_, _, e⟩
  have hc := hblk.cell 0
  clear hrow hblk
  go_enter Try.func20, Try.ntmps20
  go_wp2_with fail
  go_ret
  exact ⟨rfl, rfl⟩
theorem size_al (w : World) (o : Obj) : (w.alloc o).heap.size = w.heap.size + 1 := by simp
theorem row_reads {e : TypeId} {k : IntKind} {A : Option Addr} {n c : Nat} {xs : List Int} {w : World} {S : Nat → Prop} (h : Row e k (.slice A n c) xs w S) : Reads w k A xs := by
  obtain ⟨A2, c2, e2, _, h8, _⟩ := h.reads
  injection e2 with e3
  rw [e3]; exact h8
set_option maxHeartbeats 8000000 in
set_option maxRecDepth 20000 in
theorem small_law (A : Option Addr) (c : Nat) (gaps : List Int) (B : Option Addr) (d : Nat) (far : List Int) (w : World) (h : ArgI w .u16 A c gaps) (h' : ArgI w .u32 B d far) :
    Calls Try.prog 3 #[.slice A gaps.length c, .slice B far.length d] w fun e w' => e = .returned (.bool true) ∧ Below w.heap.size w w' := by
  have HA := Lib.hid h.reads
  have HB := Lib.hid h'.reads
  have HUA := Lib.hid (show ∀ x ∈ gaps, 0 ≤ x ∧ x ≤ 65535 from fun x hx => wf_u16 (h.rng x hx))
  have HUB := Lib.hid (show ∀ x ∈ far, 0 ≤ x ∧ x ≤ 4294967295 from fun x hx => wf_u32 (h'.rng x hx))
  have HFL := Lib.hid (show far.length ≤ 9223372036854775807 from Nat.le_trans h'.le h'.cap)
  clear h h'
  go_enter Try.func3, Try.ntmps3
  go_wp2_with fail
  refine (awake6 w).mono ?_
  rintro e w1 ⟨rfl, hb1⟩
  have HX1 := Lib.hid (show Ext w w1 from hb1)
  clear hb1
  by_cases hla : 60 < gaps.length
  · have g1 : decide ((60 : Int) < (gaps.length : Int)) = true := by simp <;> omega
    go_wp2_with fail
    go_ret
    exact ⟨rfl, HX1.out⟩
  have g1 : decide ((60 : Int) < (gaps.length : Int)) = false := by simp <;> omega
  have hga : gaps.length ≤ 60 := by omega
  go_wp2_with fail
  refine (slow_c A B c d gaps far w1 (HX1.out.reads HA.out) (HX1.out.reads HB.out) (by omega) HFL.out HUA.out HUB.out).mono ?_
  rintro e w2 ⟨A2, c2, S2, rfl, hrow, hst⟩
  have hll : (slowL gaps far).length ≤ 60 := Nat.le_trans (slowG_len far gaps 0 0) hga
  have HN := Lib.hid (slowG_nf far gaps 0 0)
  have HU := Lib.hid (slowG_u32 far gaps 0 0)
  have HR := Lib.hid (row_reads hrow)
  have HX2 := Lib.hid (Ext.trans _ _ _ HX1.out (show Ext w1 w2 from below_of hst))
  clear hrow hst HX1 HA HB HUA HUB
  change RowKit.Hid (NF (slowL gaps far)) at HN
  change RowKit.Hid (U32s (slowL gaps far)) at HU
  generalize slowL gaps far = l at hll HN HU HR ⊢
  by_cases h0 : l.length = 0
  · have e0 : ((l.length : Int) == 0) = true := by simpa using h0
    go_wp2_with fail
    go_ret
    exact ⟨rfl, HX2.out⟩
  have e0 : ((l.length : Int) == 0) = false := by rw [beq_eq_false_iff_ne]; omega
  have hl0 : 0 < l.length := by omega
  go_wp2_with fail
  refine (of_nf A2 c2 l w2 HR.out (by omega) hl0 HU.out HN.out).mono ?_
  rintro e w3 ⟨A3, c3, A4, c4, S3, rfl, hsep, hst⟩
  obtain ⟨hs1, hs2, hs3, hs4⟩ := small_size HN.out HU.out hl0 hll
  have HSZ := Lib.hid hs4
  have hX : lastN l < 4294967296 := by have hlast := HU.out.at (i := l.length - 1) (by omega); unfold lastN val; omega
  have HX3 := Lib.hid (Ext.trans _ _ _ HX2.out (show Ext w2 w3 from below_of hst))
  obtain ⟨Sa, Sb, ha, hb, _, _⟩ := hsep
  have hr3 := row_reads ha
  have hr4 := row_reads hb
  clear ha hb hst HX2 HR HN HU
  have hx4 : Ext w3 (w3.alloc (.cells #[.int .i64 l.length, .int .u32 (lastN l), .int .i64 (lowF l), .slice A3 (lowsF l).length c3, .slice A4 (highF l).length c4] 29)) := (Below.refl _ _).alloc (Nat.le_refl _) _
  have hbk := heap_alloc_new w3 (.cells #[.int .i64 l.length, .int .u32 (lastN l), .int .i64 (lowF l), .slice A3 (lowsF l).length c3, .slice A4 (highF l).length c4] 29)
  have HR3 := Lib.hid (hx4.reads hr3)
  have HR4 := Lib.hid (hx4.reads hr4)
  have HBK := Lib.hid hbk
  have HX4 := Lib.hid (Ext.trans _ _ _ HX3.out hx4)
  clear hr3 hr4 hx4 hbk HX3
  go_wp2_with fail
  have hsz := size_al w3 (.cells #[.int .i64 l.length, .int .u32 (lastN l), .int .i64 (lowF l), .slice A3 (lowsF l).length c3, .slice A4 (highF l).length c4] 29)
  generalize w3.alloc (.cells #[.int .i64 l.length, .int .u32 (lastN l), .int .i64 (lowF l), .slice A3 (lowsF l).length c3, .slice A4 (highF l).length c4] 29) = w4 at HR3 HR4 HBK HX4 hsz ⊢
  generalize w3.heap.size = px at HBK hsz ⊢
  have n1 := Wire.new_writer (loc_old w4) (old_of (Ext.refl w4))
  have HW1 := Lib.hid n1.1
  have hwx : Ext w4 (w4.alloc (.cells #[.slice none 0 0] 35)) := (Below.refl _ _).alloc (Nat.le_refl _) _
  have HWX := Lib.hid hwx
  clear n1 hwx
  rw [← hsz]
  have hlt4 : px < w4.heap.size := by omega
  refine ((put_row w4.heap.size [] l A3 A4 c3 c4 (Old w4) (loc_old w4) (fun w S h => old_reads h HR3.out) (fun w S h => old_reads h HR4.out) (by decide) (by omega) hX (by omega) (by omega)) _ _ HW1.out).mono ?_
  rintro e w5 ⟨S5, ⟨rfl, h5⟩, st5⟩
  rw [List.nil_append] at h5
  obtain ⟨S6, S7, hwr, hold, _, _⟩ := h5
  have hx5 : Ext w4 w5 := ⟨st5.keep.os.trans HWX.out.os, st5.keep.tape.trans HWX.out.tape, st5.keep.output.trans HWX.out.output, hold.2.1, hold.2.2⟩
  have HWR := Lib.hid hwr
  have HX5 := Lib.hid (Ext.trans _ _ _ HX4.out hx5)
  have hbk := (hx5.block px hlt4).trans HBK.out
  have hq5 : w4.heap.size < w5.heap.size := by have a1 := st5.keep.size; rw [size_al] at a1; omega
  have k0 := bl_cell hbk 0
  have k1 := bl_cell hbk 1
  have k2 := bl_cell hbk 2
  have k3 := bl_cell hbk 3
  have k4 := bl_cell hbk 4
  simp only [List.getElem?_toArray, List.getElem?_cons_zero, List.getElem?_cons_succ] at k0 k1 k2 k3 k4
  clear hwr hold HW1 HWX HR3 HR4 HBK HX4 hbk st5 hx5
  go_wp2_with fail
  generalize w4.heap.size = q at *
  go_loopw [9] (fun v wr => ∃ k : Nat, k ≤ 32 ∧ v = .int .i64 k ∧ Ext w5 wr) (fun v _ => 33 - (intOf v).toNat)
  case atStart => exact ⟨0, by omega, rfl, Ext.refl _⟩
  case round =>
    obtain ⟨k, hk, rfl, hxr⟩ := hrel
    have m0 := hxr.cell k0
    have m1 := hxr.cell k1
    have m2 := hxr.cell k2
    have m3 := hxr.cell k3
    have m4 := hxr.cell k4
    have HXR := Lib.hid hxr
    clear hxr
    go_wp2_with fail
    refine (last_c _ _ _ _ _ (lastN l) rfl _).mono ?_
    rintro e w6 ⟨rfl, hx6⟩
    have HX6 := Lib.hid (Ext.trans _ _ _ HXR.out hx6)
    obtain ⟨Q, hQ⟩ : ∃ Q, lastN l / 2 ^ k = Q := ⟨_, rfl⟩
    have hxQ : (lastN l : Int) / 2 ^ k = (Q : Int) := by rw [← hQ, Int.natCast_ediv, Int.natCast_pow]; rfl
    clear m0 m1 m2 m3 m4 hx6 HXR
    by_cases hq : l.length ≤ Q
    · have hd : decide ((l.length : Int) ≤ (Q : Int)) = true := by simp; omega
      have hk32 : k < 32 := by
        rcases Nat.lt_or_ge k 32 with h | h
        · exact h
        · obtain rfl : k = 32 := by omega
          have : lastN l / 2 ^ 32 = 0 := Nat.div_eq_of_lt hX
          omega
      clear hQ
      go_wp2_with fail
      exact ⟨⟨k + 1, by omega, by go_num, HX6.out⟩, by simp [intOf]; omega⟩
    · have hd : decide ((l.length : Int) ≤ (Q : Int)) = false := by simp; omega
      have HQ := Lib.hid (show 8 * (rowB l).length ≤ l.length * (k + 4) + 100 from HSZ.out k (by omega))
      clear hQ
      have hmk : ∀ w, (Instr.makeSlice 23 (.int .i64 4097) (.int .i64 4097)).run Try.prog w = .ok (.slice (some ⟨w.heap.size, 0, none⟩) 4097 4097) (w.alloc (.cells (madeCells #[.int .u32 0] 4097) 26)) := fun _ => by kernel_rfl
      obtain ⟨P, hP⟩ : ∃ P : Nat, l.length * (k + 4) = P := ⟨_, rfl⟩
      have hPi : (l.length : Int) * ((k : Int) + 4) = (P : Int) := by rw [← hP]; simp
      have hPle : P ≤ 60 * 36 := by rw [← hP]; exact Nat.mul_le_mul hll (by omega)
      rw [hP] at HQ
      have hj := HQ.out
      generalize hJ : (rowB l).length = J at hj HQ hs3
      have hfin : decide (8 * (J : Int) ≤ (P : Int) + 100) = true := by simp; omega
      clear hP HSZ hs4
      subst hsz
      go_wp2_with fail
      refine (of_many (some ⟨w6.heap.size, 0, none⟩) 4097 4097 (by decide) _).mono ?_
      rintro e w7 ⟨rfl, hx7⟩
      have hx7a : Ext w6 (w6.alloc (.cells (madeCells #[.int .u32 0] 4097) 26)) := (Below.refl _ _).alloc (Nat.le_refl _) _
      have hx7b : Ext w7 (w7.alloc (.cells #[.int .i64 0, .int .u32 0, .int .i64 0, .slice none 0 0, .slice none 0 0] 29)) := (Below.refl _ _).alloc (Nat.le_refl _) _
      have HX8 := Lib.hid (Ext.trans _ _ _ HX6.out (Ext.trans _ _ _ hx7a (Ext.trans _ _ _ hx7 hx7b)))
      have HW8 := Lib.hid (Ext.keep (Wire.loc_wr _ _) HX8.out HWR.out)
      clear hx7 hx7a hx7b HX6
      go_wp2_with fail
      refine (wlen_c _ _ _ _ HW8.out).mono ?_
      rintro e w9 ⟨rfl, rfl⟩
      rw [hJ]
      go_wp2_with fail
      go_ret
      exact ⟨rfl, Ext.trans _ _ _ HX5.out HX8.out⟩
end Go.Proofs.Ytlmelcfiegamaaa.Fano
