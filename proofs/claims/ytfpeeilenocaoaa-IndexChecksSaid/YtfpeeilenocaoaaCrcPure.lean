/- Sums of 32 bits, plain: a register that is turned bit by bit. It speaks of no program. -/
import Derived.Test.YtfpeeilenocaoaaBit
import Derived.Test.YtfpeeilenocaoaaOwnB
namespace Go.Proofs.Ytfpeeilenocaoaa.Crc
open Go.Proofs.Ytfpeeilenocaoaa.Own

/-- Castagnoli's polynomial, turned. -/
def poly : BitVec 32 := 0x82f63b78#32
/-- One bit. -/
def st (n : BitVec 32) : BitVec 32 := (n >>> 1) ^^^ (if n.getLsbD 0 then poly else 0#32)
def sts : Nat → BitVec 32 → BitVec 32
  | 0, n => n
  | k + 1, n => sts k (st n)

theorem st_xor (a b : BitVec 32) : st (a ^^^ b) = st a ^^^ st b := by
  unfold st
  rw [BitVec.ushiftRight_xor_distrib, BitVec.getLsbD_xor]
  cases a.getLsbD 0 <;> cases b.getLsbD 0 <;> simp only [Bool.xor_false, Bool.xor_true, Bool.not_true, Bool.not_false, Bool.false_eq_true, if_true, if_false, BitVec.xor_zero]
  · rw [BitVec.xor_assoc]
  · rw [BitVec.xor_assoc, BitVec.xor_assoc, BitVec.xor_comm (b >>> 1)]
  · rw [BitVec.xor_assoc, ← BitVec.xor_assoc poly, BitVec.xor_comm poly (b >>> 1), BitVec.xor_assoc (b >>> 1), BitVec.xor_self, BitVec.xor_zero]
theorem sts_xor : ∀ (k : Nat) (a b : BitVec 32), sts k (a ^^^ b) = sts k a ^^^ sts k b
  | 0, _, _ => rfl
  | k + 1, a, b => by unfold sts; rw [st_xor, sts_xor k]
theorem st_zero : st 0#32 = 0#32 := by simp [st]
theorem sts_zero : ∀ k, sts k 0#32 = 0#32
  | 0 => rfl
  | k + 1 => by unfold sts; rw [st_zero, sts_zero k]
theorem sts_add : ∀ (j k : Nat) (n : BitVec 32), sts (j + k) n = sts k (sts j n)
  | 0, k, n => by simp [sts]
  | j + 1, k, n => by
    rw [show j + 1 + k = (j + k) + 1 by omega]
    exact sts_add j k (st n)
theorem sts_succ (k : Nat) (n : BitVec 32) : sts (k + 1) n = st (sts k n) := sts_add k 1 n

/-- Only nought becomes nought. -/
theorem st_eq_zero {n : BitVec 32} (h : st n = 0#32) : n = 0#32 := by
  have hx : (n >>> 1) = if n.getLsbD 0 then poly else 0#32 := BitVec.xor_eq_zero_iff.1 h
  cases h0 : n.getLsbD 0 with
  | true =>
    rw [h0] at hx
    have h1 := congrArg (fun z => BitVec.getLsbD z 31) hx
    have h2 : BitVec.getLsbD poly 31 = true := by decide
    simp only [if_true, h2, BitVec.getLsbD_ushiftRight] at h1
    rw [BitVec.getLsbD_of_ge n (1 + 31) (by omega)] at h1
    cases h1
  | false =>
    rw [h0] at hx
    apply BitVec.eq_of_getLsbD_eq
    intro i hi
    cases i with
    | zero => simpa using h0
    | succ i =>
      have h1 := congrArg (fun z => BitVec.getLsbD z i) hx
      simp only [BitVec.getLsbD_ushiftRight, Bool.false_eq_true, if_false, BitVec.getLsbD_zero] at h1
      rw [Nat.add_comm 1 i] at h1
      simpa using h1
theorem sts_eq_zero : ∀ (k : Nat) {n : BitVec 32}, sts k n = 0#32 → n = 0#32
  | 0, _, h => h
  | k + 1, _, h => st_eq_zero (sts_eq_zero k h)

theorem st_even {n : BitVec 32} (h : n.getLsbD 0 = false) : st n = n >>> 1 := by unfold st; rw [h]; simp
/-- What has no low bits is only moved. -/
theorem sts_shift : ∀ (k : Nat) (n : BitVec 32), (∀ i, i < k → n.getLsbD i = false) → sts k n = n >>> k
  | 0, n, _ => by simp [sts]
  | k + 1, n, h => by
    unfold sts
    rw [st_even (h 0 (by omega)), sts_shift k _ (fun i hi => by rw [BitVec.getLsbD_ushiftRight]; exact h _ (by omega)), ← BitVec.shiftRight_add, Nat.add_comm]

/-- A byte. -/
def by1 (n : BitVec 32) (c : Int) : BitVec 32 := sts 8 (n ^^^ BitVec.ofInt 32 c)
def crcs (n : BitVec 32) (bs : List Int) : BitVec 32 := bs.foldl by1 n
def sum (bs : List Int) : BitVec 32 := ~~~ crcs 0xffffffff#32 bs
/-- The table. -/
def tab (i : Nat) : BitVec 32 := sts 8 (BitVec.ofNat 32 i)
def ix (n : BitVec 32) (c : Int) : Nat := (BitVec.ofInt 8 ((n.toNat : Int) % 256) ^^^ BitVec.ofInt 8 c).toNat
theorem ix_lt (n : BitVec 32) (c : Int) : ix n c < 256 := (BitVec.ofInt 8 ((n.toNat : Int) % 256) ^^^ BitVec.ofInt 8 c).isLt

theorem byte_bits {c : Int} (hc : 0 ≤ c ∧ c ≤ 255) : BitVec.ofInt 32 c = (BitVec.ofInt 8 c).setWidth 32 := by
  apply BitVec.eq_of_toNat_eq
  simp only [BitVec.toNat_ofInt, BitVec.toNat_setWidth]
  omega
theorem low_bits (n : BitVec 32) : BitVec.ofInt 8 ((n.toNat : Int) % 256) = n.setWidth 8 := by
  apply BitVec.eq_of_toNat_eq
  simp only [BitVec.toNat_ofInt, BitVec.toNat_setWidth]
  omega
theorem by1_tab (n : BitVec 32) {c : Int} (hc : 0 ≤ c ∧ c ≤ 255) : by1 n c = (n >>> 8) ^^^ tab (ix n c) := by
  unfold by1 tab ix
  rw [low_bits, byte_bits hc]
  generalize BitVec.ofInt 8 c = y
  have h1 : n ^^^ y.setWidth 32 = ((n >>> 8) <<< 8) ^^^ BitVec.ofNat 32 (n.setWidth 8 ^^^ y).toNat := by
    have h2 : BitVec.ofNat 32 (n.setWidth 8 ^^^ y).toNat = (n.setWidth 8 ^^^ y).setWidth 32 := by
      apply BitVec.eq_of_toNat_eq
      simp only [BitVec.toNat_ofNat, BitVec.toNat_setWidth]
    rw [h2]
    apply BitVec.eq_of_getLsbD_eq
    intro i hi
    simp only [BitVec.getLsbD_xor, BitVec.getLsbD_setWidth, BitVec.getLsbD_shiftLeft, BitVec.getLsbD_ushiftRight]
    by_cases h8 : i < 8
    · simp [h8, hi]
    · simp only [h8, hi, decide_true, decide_false, Bool.not_false, Bool.true_and, Bool.false_and, Bool.false_xor]
      rw [show 8 + (i - 8) = i by omega, BitVec.getLsbD_of_ge y i (by omega)]
  rw [h1, sts_xor, sts_shift 8 ((n >>> 8) <<< 8) (fun i hi => by simp [hi])]
  congr 1
  apply BitVec.eq_of_getLsbD_eq
  intro i hi
  simp only [BitVec.getLsbD_ushiftRight, BitVec.getLsbD_shiftLeft]
  by_cases h24 : 8 + i < 32
  · simp [h24]
  · rw [BitVec.getLsbD_of_ge n (8 + i) (by omega)]
    simp [h24]

theorem crcs_app (n : BitVec 32) (a b : List Int) : crcs n (a ++ b) = crcs (crcs n a) b := List.foldl_append
theorem crcs_cons (n : BitVec 32) (c : Int) (b : List Int) : crcs n (c :: b) = crcs (by1 n c) b := rfl
/-- Bytes turned by bytes. -/
def xors (a b : List Int) : List Int := List.zipWith (fun x y => bits .xor .u8 x y) a b
theorem xor_byte (x y : Int) : 0 ≤ bits .xor .u8 x y ∧ bits .xor .u8 x y ≤ 255 := by
  rw [Bit.xor8]
  have := (BitVec.ofInt 8 x ^^^ BitVec.ofInt 8 y).isLt
  omega
theorem xor_bits (x y : Int) (hx : 0 ≤ x ∧ x ≤ 255) (hy : 0 ≤ y ∧ y ≤ 255) : BitVec.ofInt 32 (bits .xor .u8 x y) = BitVec.ofInt 32 x ^^^ BitVec.ofInt 32 y := by
  rw [byte_bits (xor_byte x y), byte_bits hx, byte_bits hy, Bit.xor8]
  have h : BitVec.ofInt 8 ((BitVec.ofInt 8 x ^^^ BitVec.ofInt 8 y).toNat : Int) = BitVec.ofInt 8 x ^^^ BitVec.ofInt 8 y := by
    apply BitVec.eq_of_toNat_eq
    have := (BitVec.ofInt 8 x ^^^ BitVec.ofInt 8 y).isLt
    rw [BitVec.toNat_ofInt]
    omega
  rw [h, BitVec.setWidth_xor]
theorem by1_xor (n m : BitVec 32) {x y : Int} (hx : 0 ≤ x ∧ x ≤ 255) (hy : 0 ≤ y ∧ y ≤ 255) : by1 (n ^^^ m) (bits .xor .u8 x y) = by1 n x ^^^ by1 m y := by
  unfold by1
  rw [xor_bits x y hx hy, ← sts_xor]
  congr 1
  ac_rfl
/-- All is linear. -/
theorem crcs_xor : ∀ (a b : List Int) (n m : BitVec 32), IsBytes a → IsBytes b → a.length = b.length → crcs (n ^^^ m) (xors a b) = crcs n a ^^^ crcs m b
  | [], [], _, _, _, _, _ => rfl
  | [], _ :: _, _, _, _, _, h => by simp at h
  | _ :: _, [], _, _, _, _, h => by simp at h
  | x :: a, y :: b, n, m, ha, hb, h => by
    show crcs (by1 (n ^^^ m) (bits .xor .u8 x y)) (xors a b) = _
    rw [by1_xor n m (ha x (by simp)) (hb y (by simp))]
    exact crcs_xor a b _ _ (fun z hz => ha z (by simp [hz])) (fun z hz => hb z (by simp [hz])) (by simpa using h)
/-- What a difference does. -/
theorem sum_xors (a m : List Int) (ha : IsBytes a) (hm : IsBytes m) (h : a.length = m.length) : sum (xors a m) ^^^ sum a = crcs 0#32 m := by
  have h1 := crcs_xor a m 0xffffffff#32 0#32 ha hm h
  rw [BitVec.xor_zero] at h1
  unfold sum
  rw [h1]
  apply BitVec.eq_of_getLsbD_eq
  intro i hi
  simp only [BitVec.getLsbD_xor, BitVec.getLsbD_not, hi, decide_true, Bool.true_and]
  cases (crcs 0xffffffff#32 a).getLsbD i <;> cases (crcs 0#32 m).getLsbD i <;> rfl

theorem xors_step (a m : List Int) (n k : Nat) (ha : k < a.length) (hm : k < m.length) (hk : k < n) :
    (xors (a.take k) (m.take k) ++ List.replicate (n - k) 0).set k (bits .xor .u8 (a.getD k 0) (m.getD k 0)) = xors (a.take (k + 1)) (m.take (k + 1)) ++ List.replicate (n - (k + 1)) 0 := by
  have hl : (xors (a.take k) (m.take k)).length = k := by simp [xors]; omega
  have e1 : a.take (k + 1) = a.take k ++ [a.getD k 0] := by rw [List.take_add_one]; simp [List.getD_eq_getElem?_getD, List.getElem?_eq_getElem ha]
  have e2 : m.take (k + 1) = m.take k ++ [m.getD k 0] := by rw [List.take_add_one]; simp [List.getD_eq_getElem?_getD, List.getElem?_eq_getElem hm]
  have e3 : xors (a.take (k + 1)) (m.take (k + 1)) = xors (a.take k) (m.take k) ++ [bits .xor .u8 (a.getD k 0) (m.getD k 0)] := by
    rw [e1, e2]
    unfold xors
    rw [List.zipWith_append (by simp; omega)]
    rfl
  rw [e3, List.set_append_right _ _ (by omega), hl, Nat.sub_self, show n - k = (n - (k + 1)) + 1 by omega, List.replicate_succ, List.set_cons_zero, List.append_assoc]
  rfl
theorem xors_bytes (a m : List Int) : IsBytes (xors a m) := by
  intro x hx
  unfold xors at hx
  rw [List.mem_iff_getElem] at hx
  obtain ⟨i, hi, rfl⟩ := hx
  rw [List.getElem_zipWith]
  exact xor_byte _ _
theorem take_bytes {a : List Int} (h : IsBytes a) (n : Nat) : IsBytes (a.take n) := fun x hx => h x (List.mem_of_mem_take hx)
theorem mixes (a b m : List Int) (n : Nat) (ha : IsBytes a) (hb : IsBytes b) (hm : IsBytes m) (la : n ≤ a.length) (lb : n ≤ b.length) (lm : n ≤ m.length) :
    sum (xors (a.take n) (m.take n)) ^^^ sum (a.take n) = sum (xors (b.take n) (m.take n)) ^^^ sum (b.take n) := by
  rw [sum_xors _ _ (take_bytes ha n) (take_bytes hm n) (by simp; omega), sum_xors _ _ (take_bytes hb n) (take_bytes hm n) (by simp; omega)]

/-! ### as the code has it -/
theorem st_code (n : BitVec 32) : bits .xor .u32 ((n.toNat : Int) / 2) (bits .and .u32 2197175160 (IntKind.u32.wrap (-(bits .and .u32 (n.toNat : Int) 1)))) = ((st n).toNat : Int) := by
  have e1 : bits .and .u32 (n.toNat : Int) 1 = if n.getLsbD 0 then 1 else 0 := by
    rw [Bit.and32]
    have : BitVec.ofInt 32 (n.toNat : Int) &&& BitVec.ofInt 32 1 = if n.getLsbD 0 then 1#32 else 0#32 := by
      rw [show BitVec.ofInt 32 (n.toNat : Int) = n by simp, show BitVec.ofInt 32 1 = 1#32 by decide]
      apply BitVec.eq_of_getLsbD_eq
      intro i hi
      cases i with
      | zero => rw [BitVec.getLsbD_and]; cases h : n.getLsbD 0 <;> rfl
      | succ i => cases h : n.getLsbD 0 <;> simp
    rw [this]
    cases n.getLsbD 0 <;> decide
  rw [e1, Bit.xor32]
  have e2 : BitVec.ofInt 32 ((n.toNat : Int) / 2) = n >>> 1 := by
    apply BitVec.eq_of_toNat_eq
    have := n.isLt
    rw [BitVec.toNat_ofInt, BitVec.toNat_ushiftRight, Nat.shiftRight_eq_div_pow]
    omega
  rw [e2]
  unfold st
  cases n.getLsbD 0
  · rw [show BitVec.ofInt 32 (bits .and .u32 2197175160 (IntKind.u32.wrap (-(if false = true then 1 else 0)))) = 0#32 by decide]; rfl
  · rw [show BitVec.ofInt 32 (bits .and .u32 2197175160 (IntKind.u32.wrap (-(if true = true then 1 else 0)))) = poly by decide]; rfl
theorem st_code' (n : BitVec 32) : bits .xor .u32 ((n.toNat : Int) / 2) (bits .and .u32 2197175160 (-(bits .and .u32 (n.toNat : Int) 1) % 4294967296)) = ((st n).toNat : Int) := by
  have h : ∀ z : Int, z % 4294967296 = IntKind.u32.wrap z := fun z => by simp [IntKind.wrap, IntKind.bits, IntKind.signed]
  rw [h, st_code]
theorem by1_code (n : BitVec 32) {c : Int} (hc : 0 ≤ c ∧ c ≤ 255) : bits .xor .u32 ((n.toNat : Int) / 256) ((tab (ix n c)).toNat : Int) = ((by1 n c).toNat : Int) := by
  rw [Bit.xor32, by1_tab n hc]
  have e2 : BitVec.ofInt 32 ((n.toNat : Int) / 256) = n >>> 8 := by
    apply BitVec.eq_of_toNat_eq
    have := n.isLt
    rw [BitVec.toNat_ofInt, BitVec.toNat_ushiftRight, Nat.shiftRight_eq_div_pow]
    omega
  rw [e2, show BitVec.ofInt 32 ((tab (ix n c)).toNat : Int) = tab (ix n c) by simp]
theorem not_code (n : BitVec 32) : bits .xor .u32 4294967295 (n.toNat : Int) = ((~~~ n).toNat : Int) := by
  rw [Bit.xor32]
  congr 2
  rw [show BitVec.ofInt 32 (n.toNat : Int) = n by simp, show BitVec.ofInt 32 4294967295 = BitVec.allOnes 32 by decide, BitVec.allOnes_xor]
theorem xor_code (n m : BitVec 32) : bits .xor .u32 (n.toNat : Int) (m.toNat : Int) = ((n ^^^ m).toNat : Int) := by
  rw [Bit.xor32]; simp

end Go.Proofs.Ytfpeeilenocaoaa.Crc
