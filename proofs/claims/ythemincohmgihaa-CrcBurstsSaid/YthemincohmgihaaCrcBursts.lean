/- The law CrcBursts: bits that are changed within 32 neighbours make it wrong. -/
import Derived.Test.YthemincohmgihaaCrcSums
namespace Go.Proofs.Ythemincohmgihaa.Crc
open Go.RowKit Go.Proofs.Ythemincohmgihaa.Own Go.Proofs.Ythemincohmgihaa.Rely

/-- One bit turned. -/
theorem burst_bit {ys : List Int} (hy : IsBytes ys) {F k : Nat} (h : F + k < 8 * ys.length) (hk : k < 32) (n : BitVec 32) :
    crcs n (ys.set ((F + k) / 8) (bits .xor .u8 (ys.getD ((F + k) / 8) 0) ((2 ^ ((F + k) % 8) : Nat) : Int))) = crcs n ys ^^^ sts (8 * ys.length - F) (1#32 <<< k) := by
  have hp : (F + k) / 8 < ys.length := by omega
  have h8 : (F + k) % 8 < 8 := Nat.mod_lt _ (by omega)
  have key : ∀ b : Fin 8, (0 ≤ ((2 ^ b.val : Nat) : Int) ∧ ((2 ^ b.val : Nat) : Int) ≤ 255) ∧ BitVec.ofInt 32 ((2 ^ b.val : Nat) : Int) = 1#32 <<< b.val := by decide
  have hb := key ⟨(F + k) % 8, h8⟩
  have one : ∀ j, j < 32 → sts j (1#32 <<< j) = 1#32 := by
    intro j hj
    rw [sts_shift j _ (fun i hi => by simp [hi])]
    have key2 : ∀ j : Fin 32, (1#32 <<< j.val) >>> j.val = 1#32 := by decide
    exact key2 ⟨j, hj⟩
  rw [crcs_set n ys _ _ hp hy hb.1, hb.2]
  congr 1
  have e2 : sts (k + (8 * ys.length - F - k)) (1#32 <<< k) = sts (8 * ys.length - F - k) 1#32 := by rw [sts_add, one k hk]
  rw [show k + (8 * ys.length - F - k) = 8 * ys.length - F by omega] at e2
  rw [e2, show 8 * (ys.length - (F + k) / 8) = (F + k) % 8 + (8 * ys.length - F - k) by omega, sts_add, one _ (by omega)]
theorem mask_step (M k : Nat) (hk : k < 32) (h : M / 2 ^ k % 2 = 1) : BitVec.ofNat 32 (M % 2 ^ (k + 1)) = BitVec.ofNat 32 (M % 2 ^ k) ^^^ (1#32 <<< k) := by
  apply BitVec.eq_of_getLsbD_eq
  intro i hi
  rw [BitVec.getLsbD_xor, BitVec.getLsbD_ofNat, BitVec.getLsbD_ofNat, BitVec.getLsbD_shiftLeft, Nat.testBit_mod_two_pow, Nat.testBit_mod_two_pow, BitVec.getLsbD_one]
  have hb : M.testBit k = true := by rw [Nat.testBit_eq_decide_div_mod_eq, h]; rfl
  simp only [hi, decide_true, Bool.true_and]
  by_cases h1 : i < k
  · simp [h1, show i < k + 1 by omega]
  · by_cases h2 : i = k
    · subst h2; simp [hb]
    · have h3 : ¬ i < k + 1 := by omega
      have h4 : ¬ (i - k = 0) := by omega
      simp [h1, h3, h4]
theorem mask_same (M k : Nat) (h : M / 2 ^ k % 2 = 0) : M % 2 ^ (k + 1) = M % 2 ^ k := by
  rw [Nat.mod_pow_succ, h]; simp
theorem and1_u32 (u : Nat) : bits .and .u32 (u : Int) 1 = ((u % 2 : Nat) : Int) := by
  rw [Bit.and32]
  congr 1
  rw [show BitVec.ofInt 32 1 = 1#32 by decide, BitVec.toNat_and, BitVec.toNat_ofInt]
  rw [show (1#32).toNat = 2 ^ 1 - 1 by decide, Nat.and_two_pow_sub_one_eq_mod]
  omega
theorem burst_end {Y : List Int} (hy : IsBytes Y) {M F : Nat} (h4 : 4 ≤ Y.length) (hM : M < 4294967296) (h : crcs 0xffffffff#32 Y = RES ^^^ sts (8 * Y.length - F) (BitVec.ofNat 32 M)) : rightB Y = decide (M = 0) := by
  have h2 : rightB Y = true ↔ M = 0 := by
    rw [rightB_iff hy, h]
    constructor
    · rintro ⟨_, h3⟩
      have h5 := congrArg (fun z => RES ^^^ z) h3
      simp only [← BitVec.xor_assoc, BitVec.xor_self, BitVec.zero_xor] at h5
      have h6 := congrArg BitVec.toNat (sts_eq_zero _ h5)
      rw [BitVec.toNat_ofNat] at h6
      simp only [BitVec.toNat_zero] at h6
      omega
    · rintro rfl
      refine ⟨h4, ?_⟩
      rw [show BitVec.ofNat 32 0 = 0#32 by decide, sts_zero, BitVec.xor_zero]
  by_cases h0 : M = 0
  · rw [decide_eq_true h0]; exact h2.2 h0
  · rw [decide_eq_false h0]
    cases hb : rightB Y with
    | false => rfl
    | true => exact absurd (h2.1 hb) h0

set_option maxHeartbeats 4000000 in
set_option maxRecDepth 20000 in
theorem bursts_wf (A : Option Addr) (c : Nat) (xs : List Int) (pos mask : Int) (w : World) (h : ArgI w .u8 A c xs) (hpos : (Lit.int .u16 pos).wf = true) (hmask : (Lit.int .u32 mask).wf = true) :
    Calls Try.prog 10 #[.slice A xs.length c, .int .u16 pos, .int .u32 mask] w fun e w' => e = .returned (.bool true) ∧ Below w.heap.size w w' := by
  have HR := Lib.hid h.reads
  have HB := Lib.hid (show IsBytes xs from fun x hx => wf_u8 (h.rng x hx))
  have h32 := wf_u32 hmask
  have h16 := wf_u16 hpos
  obtain ⟨t, rfl⟩ := Int.eq_ofNat_of_zero_le h16.1
  obtain ⟨M, rfl⟩ := Int.eq_ofNat_of_zero_le h32.1
  have ht : t ≤ 65535 := by omega
  have hM := Lib.hid (show M < 4294967296 by omega)
  clear h hpos hmask h16 h32
  by_cases h2 : 200 < xs.length
  · go_enter Try.func10, Try.ntmps10
    go_wp2_with fail
    refine (awake_calls w).mono ?_
    rintro e w1 ⟨rfl, hb1⟩
    go_wp2_with fail
    go_ret
    exact ⟨rfl, hb1⟩
  go_enter Try.func10, Try.ntmps10
  go_wp2_with fail
  refine (awake_calls w).mono ?_
  rintro e w1 ⟨rfl, hb1⟩
  have hs := put_calls w1 A c xs (HR.out.later hb1) HB.out (by omega)
  obtain ⟨m, hm⟩ : ∃ m, xs.length + 4 = m := ⟨_, rfl⟩
  obtain ⟨X, hX⟩ : ∃ X, xs ++ wd (sum xs).toNat = X := ⟨_, rfl⟩
  have hXl : X.length = m := by rw [← hX, ← hm]; simp [wd]
  have HXB := Lib.hid (show IsBytes X by rw [← hX]; intro x hx; rcases List.mem_append.1 hx with hx | hx; exact HB.out x hx; exact wd_bytes _ x hx)
  have HXR := Lib.hid (show crcs 0xffffffff#32 X = RES from ((rightB_iff HXB.out).1 (by rw [← hX]; exact put_right HB.out)).2)
  have hm4 : 4 ≤ m := by omega
  have hm2 : m ≤ 204 := by omega
  obtain ⟨F, hF⟩ : ∃ F, t % (8 * m - 31) = F := ⟨_, rfl⟩
  have hFm : F < 8 * m - 31 := by rw [← hF]; exact Nat.mod_lt _ (by omega)
  have hFi2 : (t : Int) % (8 * (m : Int) - 31) = (F : Int) := by
    rw [← hF, Int.natCast_emod, show ((8 * m - 31 : Nat) : Int) = 8 * (m : Int) - 31 by omega]
  have hFi : (t : Int).tmod (8 * (m : Int) - 31) = (F : Int) := by rw [Int.tmod_eq_emod_of_nonneg (by omega)]; exact hFi2
  rw [hm, hX] at hs
  have HS := Lib.hid hs
  have HXL := Lib.hid hXl
  clear hs hXl hX hm hF
  go_wp2_with fail
  refine HS.out.mono ?_
  rintro e w2 ⟨A1, c1, S1, rfl, hrow, st⟩
  obtain ⟨g, cap, eg, _, _⟩ := hrow.form (by rw [HXL.out]; omega)
  injection eg with e1 e2 e3
  subst e1 e3
  have HROW := Lib.hid hrow
  have ST := Lib.hid (Step.trans (S := fun _ => False) (S' := fun _ => False) ⟨.of_below hb1, fun _ x => x.elim⟩ st)
  clear st hrow e2
  go_wp2_with fail
  go_loopw [24] (fun v wr => ∃ (k : Nat) (Y : List Int) (S : Nat → Prop), k ≤ 32 ∧ v = .int .i64 k ∧ Y.length = m ∧ IsBytes Y ∧ crcs 0xffffffff#32 Y = RES ^^^ sts (8 * m - F) (BitVec.ofNat 32 (M % 2 ^ k)) ∧ Row 5 .u8 (.slice (some ⟨g, 0, none⟩) m c1) Y wr S ∧ Step (fun _ => False) S w wr) (fun v _ => 32 - (intOf v).toNat)
  case atStart => exact ⟨0, X, S1, by omega, rfl, HXL.out, HXB.out, by rw [HXR.out, Nat.pow_zero, Nat.mod_one, show BitVec.ofNat 32 0 = 0#32 by decide, sts_zero, BitVec.xor_zero], HROW.out, ST.out⟩
  case round =>
    clear HROW ST HXL HXB HXR HS X
    obtain ⟨k, Y, S, hk, rfl, hYl, hYb, hYc, hrow, st⟩ := hrel
    have HROW := Lib.hid hrow
    have ST := Lib.hid st
    have HYL := Lib.hid hYl
    have HYB := Lib.hid hYb
    have HYC := Lib.hid hYc
    by_cases h32 : k < 32
    · have hand := and1_u32 (M / 2 ^ k)
      rw [show ((M / 2 ^ k : Nat) : Int) = (M : Int) / 2 ^ k by rw [Int.natCast_ediv, Int.natCast_pow]; rfl] at hand
      obtain ⟨b, hb⟩ : ∃ b, M / 2 ^ k % 2 = b := ⟨_, rfl⟩
      rw [hb] at hand
      have hb2 : b = 0 ∨ b = 1 := by omega
      rcases hb2 with rfl | rfl
      · have HN := Lib.hid (mask_same M k hb)
        clear hrow st hYl hYb hYc hb
        go_wp2_with fail
        go_roundw
        case rel => exact ⟨k + 1, Y, S, by omega, rfl, HYL.out, HYB.out, by rw [HN.out]; exact HYC.out, HROW.out, ST.out⟩
        case measure => simp [intOf]; omega
      · have HN := Lib.hid (mask_step M k h32 hb)
        obtain ⟨q, hq⟩ : ∃ q, (F + k) / 8 = q := ⟨_, rfl⟩
        obtain ⟨e, he⟩ : ∃ e, (F + k) % 8 = e := ⟨_, rfl⟩
        have f0 := hrow.free q
        have c0 := hrow.cell (i := q) (by rw [hYl]; omega)
        obtain ⟨z, hz⟩ : ∃ z, Y.getD q 0 = z := ⟨_, rfl⟩
        rw [hz] at c0
        clear hrow st hYl hYb hYc hb
        go_wp2_with fail
        go_big_region
        have he8 : e < 8 := by rw [← he]; exact Nat.mod_lt _ (by omega)
        have hpow : (2 : Int) ^ e % 256 = ((2 ^ e : Nat) : Int) := by
          have key : ∀ e : Fin 8, (2 : Int) ^ e.val % 256 = ((2 ^ e.val : Nat) : Int) := by decide
          exact key ⟨e, he8⟩
        have hs := Row.set HROW.out q (bits .xor .u8 z (2 ^ e % 256))
        have hl := burst_bit HYB.out (F := F) (k := k) (by rw [HYL.out]; omega) h32 0xffffffff#32
        rw [hq, he, hz, HYL.out] at hl
        have HL := Lib.hid hl
        have HS := Lib.hid (show Row 5 .u8 (.slice (some ⟨g, 0, none⟩) m c1) (Y.set q (bits .xor .u8 z (2 ^ e % 256))) (wr.setCell ⟨g, q, none⟩ (.int .u8 (bits .xor .u8 z (2 ^ e % 256)))).drew S ∧ Step (fun _ => False) S w (wr.setCell ⟨g, q, none⟩ (.int .u8 (bits .xor .u8 z (2 ^ e % 256)))).drew from
          ⟨(Lcl.row _ _ _ _).drew hs.1, (ST.out.trans hs.2).drew⟩)
        have HPOW := Lib.hid hpow
        clear hs hl hpow
        go_wp2_with fail
        go_roundw
        case rel =>
          refine ⟨k + 1, Y.set q (bits .xor .u8 z (2 ^ e % 256)), S, by omega, rfl, by rw [List.length_set]; exact HYL.out, set_bytes HYB.out q (xor_byte _ _), ?_, HS.out.1, HS.out.2⟩
          rw [HPOW.out, HL.out, HYC.out, HN.out, sts_xor, BitVec.xor_assoc]
        case measure => simp [intOf]; omega
    · obtain rfl : k = 32 := by omega
      rw [Nat.mod_eq_of_lt (show M < 2 ^ 32 from hM.out), ← hYl] at hYc
      have hr := right_calls wr (some ⟨g, 0, none⟩) c1 Y (readsAny hrow).1 hYb (by omega) (readsAny hrow).2.1
      obtain ⟨q, hq⟩ : ∃ q, decide (M = 0) = q := ⟨_, rfl⟩
      rw [burst_end hYb (by omega) hM.out hYc, hYl, hq] at hr
      have hq1 : ((M : Int) == 0) = q := by rw [← hq]; by_cases h0 : M = 0 <;> simp [h0]
      have hq2 : (M == 0) = q := by rw [← hq]; rfl
      have HRC := Lib.hid hr
      clear hrow st hYl hYb hYc hr hq
      go_wp2_with fail
      refine HRC.out.mono ?_
      rintro e w3 ⟨rfl, hb3⟩
      go_wp2_with fail
      go_ret
      exact ⟨rfl, Ext.after (show Ext wr w3 from hb3) (step_below ST.out) (step_below ST.out).size⟩

end Go.Proofs.Ythemincohmgihaa.Crc
