/- Bytes with their sum, changed: the register tells. Plain. -/
import Derived.Test.YtfpeeilenocaoaaCrcC
namespace Go.Proofs.Ytfpeeilenocaoaa.Crc
open Go.Proofs.Ytfpeeilenocaoaa.Own

theorem by1_xor1 (r s : BitVec 32) (c : Int) : by1 (r ^^^ s) c = by1 r c ^^^ sts 8 s := by
  unfold by1
  rw [← sts_xor]
  congr 1
  ac_rfl
theorem crcs_xor1 : ∀ (b : List Int) (r s : BitVec 32), crcs (r ^^^ s) b = crcs r b ^^^ sts (8 * b.length) s
  | [], r, s => rfl
  | c :: b, r, s => by
    rw [crcs_cons, crcs_cons, by1_xor1, crcs_xor1 b, List.length_cons, ← sts_add, show 8 + 8 * b.length = 8 * (b.length + 1) by omega]
theorem crcs_set (n : BitVec 32) (ys : List Int) (p : Nat) (e : Int) (hp : p < ys.length) (hy : IsBytes ys) (he : 0 ≤ e ∧ e ≤ 255) :
    crcs n (ys.set p (bits .xor .u8 (ys.getD p 0) e)) = crcs n ys ^^^ sts (8 * (ys.length - p)) (BitVec.ofInt 32 e) := by
  have hx : 0 ≤ ys.getD p 0 ∧ ys.getD p 0 ≤ 255 := hy _ (by simp [List.getD_eq_getElem?_getD, List.getElem?_eq_getElem hp])
  have e1 : ys = ys.take p ++ ys.getD p 0 :: ys.drop (p + 1) := by
    have h := (List.take_append_drop p ys).symm
    rw [List.drop_eq_getElem_cons hp] at h
    rw [List.getD_eq_getElem?_getD, List.getElem?_eq_getElem hp]
    exact h
  have e2 : ys.set p (bits .xor .u8 (ys.getD p 0) e) = ys.take p ++ bits .xor .u8 (ys.getD p 0) e :: ys.drop (p + 1) := by
    rw [List.set_eq_take_append_cons_drop, if_pos hp]
  have e3 : crcs n ys = crcs (by1 (crcs n (ys.take p)) (ys.getD p 0)) (ys.drop (p + 1)) := by
    conv => lhs; rw [e1]
    rw [crcs_app, crcs_cons]
  rw [e2, e3, crcs_app, crcs_cons]
  have h1 : by1 (crcs n (ys.take p)) (bits .xor .u8 (ys.getD p 0) e) = by1 (crcs n (ys.take p)) (ys.getD p 0) ^^^ sts 8 (BitVec.ofInt 32 e) := by
    unfold by1
    rw [xor_bits _ _ hx he, ← sts_xor]
    congr 1
    ac_rfl
  rw [h1, crcs_xor1, ← sts_add, List.length_drop, show 8 + 8 * (ys.length - (p + 1)) = 8 * (ys.length - p) by omega]

/-- What is left of bytes that end with their sum. -/
def RES : BitVec 32 := sts 32 0xffffffff#32
theorem sts_inj {k : Nat} {a b : BitVec 32} (h : sts k a = sts k b) : a = b := by
  have h1 : sts k (a ^^^ b) = 0#32 := by rw [sts_xor, h, BitVec.xor_self]
  exact BitVec.xor_eq_zero_iff.1 (sts_eq_zero k h1)
/-- Four bytes as a word. -/
def word4 (a b c d : Int) : BitVec 32 := BitVec.ofInt 32 a ^^^ (BitVec.ofInt 32 b <<< 8) ^^^ (BitVec.ofInt 32 c <<< 16) ^^^ (BitVec.ofInt 32 d <<< 24)
theorem low_of_byte {a : Int} (ha : 0 ≤ a ∧ a ≤ 255) (i : Nat) (hi : 8 ≤ i) : (BitVec.ofInt 32 a).getLsbD i = false := by
  rw [byte_bits ha, BitVec.getLsbD_setWidth, BitVec.getLsbD_of_ge _ i hi]
  simp
theorem shl_shr {a : Int} (ha : 0 ≤ a ∧ a ≤ 255) (k : Nat) (hk : k ≤ 24) : (BitVec.ofInt 32 a <<< k) >>> k = BitVec.ofInt 32 a := by
  apply BitVec.eq_of_getLsbD_eq
  intro i hi
  rw [BitVec.getLsbD_ushiftRight, BitVec.getLsbD_shiftLeft]
  by_cases h : k + i < 32
  · simp [h]
  · simp only [h, decide_false, Bool.false_and]
    exact (low_of_byte ha i (by omega)).symm
theorem sts_shl {a : Int} (ha : 0 ≤ a ∧ a ≤ 255) (k j : Nat) (hk : k ≤ 24) : sts (k + j) (BitVec.ofInt 32 a <<< k) = sts j (BitVec.ofInt 32 a) := by
  rw [sts_add, sts_shift k _ (fun i hi => by simp [hi]), shl_shr ha k hk]
theorem crcs_word (r : BitVec 32) {a b c d : Int} (ha : 0 ≤ a ∧ a ≤ 255) (hb : 0 ≤ b ∧ b ≤ 255) (hc : 0 ≤ c ∧ c ≤ 255) (hd : 0 ≤ d ∧ d ≤ 255) : crcs r [a, b, c, d] = sts 32 (r ^^^ word4 a b c d) := by
  show by1 (by1 (by1 (by1 r a) b) c) d = _
  unfold by1 word4
  simp only [sts_xor]
  rw [← sts_add, ← sts_add, ← sts_add, ← sts_add, ← sts_add, ← sts_add, ← sts_add, ← sts_add, ← sts_add]
  rw [show sts 32 (BitVec.ofInt 32 b <<< 8) = sts 24 (BitVec.ofInt 32 b) from sts_shl hb 8 24 (by omega), show sts 32 (BitVec.ofInt 32 c <<< 16) = sts 16 (BitVec.ofInt 32 c) from sts_shl hc 16 16 (by omega), show sts 32 (BitVec.ofInt 32 d <<< 24) = sts 8 (BitVec.ofInt 32 d) from sts_shl hd 24 8 (by omega)]
  simp only [Nat.reduceAdd]
  ac_rfl

theorem word4_bit {a b c d : Int} (ha : 0 ≤ a ∧ a ≤ 255) (hb : 0 ≤ b ∧ b ≤ 255) (hc : 0 ≤ c ∧ c ≤ 255) (hd : 0 ≤ d ∧ d ≤ 255) (i : Nat) (hi : i < 32) :
    (word4 a b c d).getLsbD i = if i < 8 then (BitVec.ofInt 32 a).getLsbD i else if i < 16 then (BitVec.ofInt 32 b).getLsbD (i - 8) else if i < 24 then (BitVec.ofInt 32 c).getLsbD (i - 16) else (BitVec.ofInt 32 d).getLsbD (i - 24) := by
  unfold word4
  simp only [BitVec.getLsbD_xor, BitVec.getLsbD_shiftLeft, hi, decide_true, Bool.true_and]
  by_cases h1 : i < 8
  · simp [h1, show i < 16 by omega, show i < 24 by omega]
  · rw [low_of_byte ha i (by omega)]
    by_cases h2 : i < 16
    · simp [h1, h2, show i < 24 by omega]
    · rw [low_of_byte hb (i - 8) (by omega)]
      by_cases h3 : i < 24
      · simp [h1, h2, h3]
      · rw [low_of_byte hc (i - 16) (by omega)]
        simp [h1, h2, h3]
theorem byte_of_bits {a a' : Int} (ha : 0 ≤ a ∧ a ≤ 255) (ha' : 0 ≤ a' ∧ a' ≤ 255) (h : ∀ i, i < 8 → (BitVec.ofInt 32 a).getLsbD i = (BitVec.ofInt 32 a').getLsbD i) : a = a' := by
  have h1 : BitVec.ofInt 32 a = BitVec.ofInt 32 a' := by
    apply BitVec.eq_of_getLsbD_eq
    intro i hi
    by_cases h8 : i < 8
    · exact h i h8
    · rw [low_of_byte ha i (by omega), low_of_byte ha' i (by omega)]
  have h2 := congrArg BitVec.toNat h1
  rw [BitVec.toNat_ofInt, BitVec.toNat_ofInt] at h2
  omega
theorem word4_inj {a b c d a' b' c' d' : Int} (ha : 0 ≤ a ∧ a ≤ 255) (hb : 0 ≤ b ∧ b ≤ 255) (hc : 0 ≤ c ∧ c ≤ 255) (hd : 0 ≤ d ∧ d ≤ 255) (ha' : 0 ≤ a' ∧ a' ≤ 255) (hb' : 0 ≤ b' ∧ b' ≤ 255) (hc' : 0 ≤ c' ∧ c' ≤ 255) (hd' : 0 ≤ d' ∧ d' ≤ 255)
    (h : word4 a b c d = word4 a' b' c' d') : a = a' ∧ b = b' ∧ c = c' ∧ d = d' := by
  have hbit := fun (i : Nat) (hi : i < 32) => (word4_bit ha hb hc hd i hi).symm.trans ((congrArg (fun z => BitVec.getLsbD z i) h).trans (word4_bit ha' hb' hc' hd' i hi))
  refine ⟨byte_of_bits ha ha' fun i hi => ?_, byte_of_bits hb hb' fun i hi => ?_, byte_of_bits hc hc' fun i hi => ?_, byte_of_bits hd hd' fun i hi => ?_⟩
  · have := hbit i (by omega)
    rwa [if_pos hi, if_pos hi] at this
  · have := hbit (i + 8) (by omega)
    simpa only [show ¬ i + 8 < 8 by omega, show i + 8 < 16 by omega, if_true, if_false, Nat.add_sub_cancel] using this
  · have := hbit (i + 16) (by omega)
    simpa only [show ¬ i + 16 < 8 by omega, show ¬ i + 16 < 16 by omega, show i + 16 < 24 by omega, if_true, if_false, Nat.add_sub_cancel] using this
  · have := hbit (i + 24) (by omega)
    simpa only [show ¬ i + 24 < 8 by omega, show ¬ i + 24 < 16 by omega, show ¬ i + 24 < 24 by omega, if_false, Nat.add_sub_cancel] using this
theorem byte_bit (n k i : Nat) (hi : i < 8) (hk : 8 * k + i < 32) : (BitVec.ofInt 32 ((n / 2 ^ (8 * k) % 256 : Nat) : Int)).getLsbD i = n.testBit (8 * k + i) := by
  rw [BitVec.ofInt_natCast, BitVec.getLsbD_ofNat]
  simp only [show i < 32 by omega, decide_true, Bool.true_and]
  rw [show (256 : Nat) = 2 ^ 8 by decide, Nat.testBit_mod_two_pow]
  simp only [hi, decide_true, Bool.true_and]
  rw [Nat.testBit_div_two_pow, Nat.add_comm]
theorem word4_wd (r : BitVec 32) : word4 ((r.toNat % 256 : Nat) : Int) ((r.toNat / 256 % 256 : Nat) : Int) ((r.toNat / 65536 % 256 : Nat) : Int) ((r.toNat / 16777216 % 256 : Nat) : Int) = r := by
  have b0 := byte_bit r.toNat 0
  have b1 := byte_bit r.toNat 1
  have b2 := byte_bit r.toNat 2
  have b3 := byte_bit r.toNat 3
  simp only [Nat.mul_zero, Nat.pow_zero, Nat.div_one, Nat.zero_add, Nat.mul_one, show (2 : Nat) ^ 8 = 256 by decide, show (2 : Nat) ^ (8 * 2) = 65536 by decide, show (2 : Nat) ^ (8 * 3) = 16777216 by decide] at b0 b1 b2 b3
  apply BitVec.eq_of_getLsbD_eq
  intro i hi
  rw [word4_bit (by omega) (by omega) (by omega) (by omega) i hi]
  show _ = r.toNat.testBit i
  split
  · exact b0 i (by omega) (by omega)
  · split
    · rw [b1 (i - 8) (by omega) (by omega), show 8 + (i - 8) = i by omega]
    · split
      · rw [b2 (i - 16) (by omega) (by omega), show 8 * 2 + (i - 16) = i by omega]
      · rw [b3 (i - 24) (by omega) (by omega), show 8 * 3 + (i - 24) = i by omega]

/-- **They end with their sum just if the register is left so.** -/
theorem rightB_iff {xs : List Int} (hx : IsBytes xs) : rightB xs = true ↔ 4 ≤ xs.length ∧ crcs 0xffffffff#32 xs = RES := by
  unfold rightB
  rw [decide_eq_true_eq]
  refine and_congr_right fun h4 => ?_
  obtain ⟨k, hk⟩ : ∃ k, xs.length - 4 = k := ⟨_, rfl⟩
  rw [hk]
  obtain ⟨a, b, c, d, hd⟩ : ∃ a b c d, xs.drop k = [a, b, c, d] := by
    have hl : (xs.drop k).length = 4 := by rw [List.length_drop]; omega
    match h : xs.drop k, hl with
    | [a, b, c, d], _ => exact ⟨a, b, c, d, rfl⟩
  have hm : ∀ x ∈ [a, b, c, d], 0 ≤ x ∧ x ≤ 255 := fun x hxm => hx x (List.mem_of_mem_drop (i := k) (by rw [hd]; exact hxm))
  have ha := hm a (by simp)
  have hb := hm b (by simp)
  have hc := hm c (by simp)
  have hdd := hm d (by simp)
  have hall : crcs 0xffffffff#32 xs = sts 32 (crcs 0xffffffff#32 (xs.take k) ^^^ word4 a b c d) := by
    rw [← crcs_word _ ha hb hc hdd, ← hd, ← crcs_app, List.take_append_drop]
  rw [hall, hd]
  have hs : (∀ r w : BitVec 32, sts 32 (r ^^^ w) = RES ↔ w = ~~~ r) := by
    intro r w
    constructor
    · intro h
      have h1 := sts_inj h
      rw [← BitVec.allOnes_xor (x := r), show BitVec.allOnes 32 = 0xffffffff#32 by decide, BitVec.xor_comm, ← h1, ← BitVec.xor_assoc, BitVec.xor_self, BitVec.zero_xor]
    · rintro rfl
      unfold RES
      congr 1
      rw [← BitVec.allOnes_xor (x := r), BitVec.xor_comm (BitVec.allOnes 32), ← BitVec.xor_assoc, BitVec.xor_self, BitVec.zero_xor]
      decide
  rw [hs]
  constructor
  · intro h
    simp only [wd, List.cons.injEq, and_true] at h
    obtain ⟨rfl, rfl, rfl, rfl⟩ := h
    exact word4_wd _
  · intro h
    have h2 := word4_wd (sum (xs.take k))
    have h3 : word4 a b c d = sum (xs.take k) := h
    obtain ⟨e1, e2, e3, e4⟩ := word4_inj ha hb hc hdd (by omega) (by omega) (by omega) (by omega) (h3.trans h2.symm)
    rw [e1, e2, e3, e4]
    rfl

end Go.Proofs.Ytfpeeilenocaoaa.Crc
