/- The law CrcBursts: bits that are changed within 32 neighbours make it wrong. -/
import Derived.Test.YtfpeeilenocaoaaCrcSums
namespace Go.Proofs.Ytfpeeilenocaoaa.Crc
open Go.RowKit Go.Proofs.Ytfpeeilenocaoaa.Own Go.Proofs.Ytfpeeilenocaoaa.Rely

/-- One bit turned. -/
theorem burst_bit {ys : List Int} (hy : IsBytes ys) {F k : Nat} (h : F + k < 8 * ys.length) (hk : k < 32) (n : BitVec 32) :
    crcs n (ys.set ((F + k) / 8) (bits .xor .u8 (ys.getD ((F + k) / 8) 0) ((2 ^ ((F + k) % 8) : Nat) : Int))) = crcs n ys ^^^ sts (8 * ys.length - F) (1#32 <<< k) := by
  have hp : (F + k) / 8 < ys.length := by omega
  have h8 : (F + k) % 8 < 8 := Nat.mod_lt _ (by omega)
  have key : ∀ b : Fin 8, (0 ≤ ((2 ^ b.val : Nat) : Int) ∧ ((2 ^ b.val : Nat) : Int) ≤ 255) ∧ BitVec.ofInt 32 ((2 ^ b.val : Nat) : Int) = 1#32 <<< b.val := by decide
  have hb := key ⟨(F + k) % 8, h8⟩
  have one : ∀ j, j < 32 → sts j (1#32 <<< j) = 1#32 := by
    intro j hj
    rw [sts_shift j _ (fun i hi => by simp [hi])]
    have key2 : ∀ j : Fin 32, (1#32 <<< j.val) >>> j.val = 1#32 := by decide
    exact key2 ⟨j, hj⟩
  rw [crcs_set n ys _ _ hp hy hb.1, hb.2]
  congr 1
  have e2 : sts (k + (8 * ys.length - F - k)) (1#32 <<< k) = sts (8 * ys.length - F - k) 1#32 := by rw [sts_add, one k hk]
  rw [show k + (8 * ys.length - F - k) = 8 * ys.length - F by omega] at e2
  rw [e2, show 8 * (ys.length - (F + k) / 8) = (F + k) % 8 + (8 * ys.length - F - k) by omega, sts_add, one _ (by omega)]
theorem mask_step (M k : Nat) (hk : k < 32) (h : M / 2 ^ k % 2 = 1) : BitVec.ofNat 32 (M % 2 ^ (k + 1)) = BitVec.ofNat 32 (M % 2 ^ k) ^^^ (1#32 <<< k) := by
  apply BitVec.eq_of_getLsbD_eq
  intro i hi
  rw [BitVec.getLsbD_xor, BitVec.getLsbD_ofNat, BitVec.getLsbD_ofNat, BitVec.getLsbD_shiftLeft, Nat.testBit_mod_two_pow, Nat.testBit_mod_two_pow, BitVec.getLsbD_one]
  have hb : M.testBit k = true := by rw [Nat.testBit_eq_decide_div_mod_eq, h]; rfl
  simp only [hi, decide_true, Bool.true_and]
  by_cases h1 : i < k
  · simp [h1, show i < k + 1 by omega]
  · by_cases h2 : i = k
    · subst h2; simp [hb]
    · have h3 : ¬ i < k + 1 := by omega
      have h4 : ¬ (i - k = 0) := by omega
      simp [h1, h3, h4]
theorem mask_same (M k : Nat) (h : M / 2 ^ k % 2 = 0) : M % 2 ^ (k + 1) = M % 2 ^ k := by
  rw [Nat.mod_pow_succ, h]; simp
theorem and1_u32 (u : Nat) : bits .and .u32 (u : Int) 1 = ((u % 2 : Nat) : Int) := by
  rw [Bit.and32]
  congr 1
  rw [show BitVec.ofInt 32 1 = 1#32 by decide, BitVec.toNat_and, BitVec.toNat_ofInt]
  rw [show (1#32).toNat = 2 ^ 1 - 1 by decide, Nat.and_two_pow_sub_one_eq_mod]
  omega
theorem burst_end {Y : List Int} (hy : IsBytes Y) {M F : Nat} (h4 : 4 ≤ Y.length) (hM : M < 4294967296) (h : crcs 0xffffffff#32 Y = RES ^^^ sts (8 * Y.length - F) (BitVec.ofNat 32 M)) : rightB Y = decide (M = 0) := by
  have h2 : rightB Y = true ↔ M = 0 := by
    rw [rightB_iff hy, h]
    constructor
    · rintro ⟨_, h3⟩
      have h5 := congrArg (fun z => RES ^^^ z) h3
      simp only [← BitVec.xor_assoc, BitVec.xor_self, BitVec.zero_xor] at h5
      have h6 := congrArg BitVec.toNat (sts_eq_zero _ h5)
      rw [BitVec.toNat_ofNat] at h6
      simp only [BitVec.toNat_zero] at h6
      omega
    · rintro rfl
      refine ⟨h4, ?_⟩
      rw [show BitVec.ofNat 32 0 = 0#32 by decide, sts_zero, BitVec.xor_zero]
  by_cases h0 : M = 0
  · rw [decide_eq_true h0]; exact h2.2 h0
  · rw [decide_eq_false h0]
    cases hb : rightB Y with
    | false => rfl
    | true => exact absurd (h2.1 hb) h0

end Go.Proofs.Ytfpeeilenocaoaa.Crc
