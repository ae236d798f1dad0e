/- Bit operations on whole numbers, in the walk's own spelling, as operations on rows of bits. It speaks of no program. -/
import Derived.Laws.BitsLemmas
import Derived.Laws.BitsAllLaws
import Derived.RowKit
namespace Go.Proofs.Ythemincohmgihaa.Bit

theorem wrap64 (n : Int) : IntKind.u64.wrap n = n % 18446744073709551616 := by simp [IntKind.wrap, IntKind.bits, IntKind.signed]
theorem w8 (x : BitVec 8) : IntKind.u8.wrap (x.toNat : Int) = (x.toNat : Int) := by
  rw [IntKind.wrap_u8]
  have := x.isLt
  omega
theorem xor8 (a b : Int) : bits .xor .u8 a b = ((BitVec.ofInt 8 a ^^^ BitVec.ofInt 8 b).toNat : Int) := w8 _
theorem or8 (a b : Int) : bits .or .u8 a b = ((BitVec.ofInt 8 a ||| BitVec.ofInt 8 b).toNat : Int) := w8 _
theorem and8 (a b : Int) : bits .and .u8 a b = ((BitVec.ofInt 8 a &&& BitVec.ofInt 8 b).toNat : Int) := w8 _
theorem w32 (x : BitVec 32) : IntKind.u32.wrap (x.toNat : Int) = (x.toNat : Int) := by
  rw [IntKind.wrap_u32]
  have := x.isLt
  omega
theorem xor32 (a b : Int) : bits .xor .u32 a b = ((BitVec.ofInt 32 a ^^^ BitVec.ofInt 32 b).toNat : Int) := w32 _
theorem or32 (a b : Int) : bits .or .u32 a b = ((BitVec.ofInt 32 a ||| BitVec.ofInt 32 b).toNat : Int) := w32 _
theorem and32 (a b : Int) : bits .and .u32 a b = ((BitVec.ofInt 32 a &&& BitVec.ofInt 32 b).toNat : Int) := w32 _
theorem w64 (x : BitVec 64) : IntKind.u64.wrap (x.toNat : Int) = (x.toNat : Int) := by
  rw [wrap64]
  have := x.isLt
  omega
theorem xor64 (a b : Int) : bits .xor .u64 a b = ((BitVec.ofInt 64 a ^^^ BitVec.ofInt 64 b).toNat : Int) := w64 _
theorem or64 (a b : Int) : bits .or .u64 a b = ((BitVec.ofInt 64 a ||| BitVec.ofInt 64 b).toNat : Int) := w64 _
theorem and64 (a b : Int) : bits .and .u64 a b = ((BitVec.ofInt 64 a &&& BitVec.ofInt 64 b).toNat : Int) := w64 _
theorem ofInt_wrap64 (n : Int) : BitVec.ofInt 64 (IntKind.u64.wrap n) = BitVec.ofInt 64 n := by
  rw [wrap64]
  apply BitVec.eq_of_toNat_eq
  simp only [BitVec.toNat_ofInt]
  omega

/-- A number with a sign as one without. -/
def zig (n : Int) : Nat := if 0 ≤ n then (2 * n).toNat else (-2 * n - 1).toNat
theorem zig_lt {n : Int} (h0 : -9223372036854775808 ≤ n) (h1 : n ≤ 9223372036854775807) : zig n < 18446744073709551616 := by
  unfold zig; split <;> omega
theorem zig_bits (n : Int) (h0 : -9223372036854775808 ≤ n) (h1 : n ≤ 9223372036854775807) :
    bits .xor .u64 (IntKind.u64.wrap (IntKind.u64.wrap n * 2)) (IntKind.u64.wrap (n / 9223372036854775808)) = ((zig n : Nat) : Int) := by
  rw [xor64, ofInt_wrap64, ofInt_wrap64, wrap64]
  by_cases h : 0 ≤ n
  · have hd : n / 9223372036854775808 = 0 := by omega
    rw [hd]
    have hz : BitVec.ofInt 64 0 = 0#64 := rfl
    rw [hz, BitVec.xor_zero, BitVec.toNat_ofInt]
    unfold zig; rw [if_pos h]; omega
  · have hd : n / 9223372036854775808 = -1 := by omega
    rw [hd]
    have hz : BitVec.ofInt 64 (-1) = BitVec.allOnes 64 := by decide
    rw [hz, BitVec.xor_allOnes, BitVec.toNat_not, BitVec.toNat_ofInt]
    unfold zig; rw [if_neg h]; omega
theorem or128 (m : Nat) : bits .or .u8 ((m : Int) % 256) 128 = ((m % 128 + 128 : Nat) : Int) := by
  rw [or8]
  have h1 : BitVec.ofInt 8 ((m : Int) % 256) = BitVec.ofNat 8 m := by
    apply BitVec.eq_of_toNat_eq; simp only [BitVec.toNat_ofInt, BitVec.toNat_ofNat]; omega
  have h2 : BitVec.ofInt 8 128 = 128#8 := by decide
  rw [h1, h2]
  have h3 : ∀ x : BitVec 8, (x ||| 128#8).toNat = x.toNat % 128 + 128 := by decide
  rw [h3, BitVec.toNat_ofNat]
  omega

theorem not_i64 (n : Int) (h0 : -9223372036854775808 ≤ n) (h1 : n ≤ 9223372036854775807) : bits .xor .i64 (-1) n = -1 - n := by
  show IntKind.i64.wrap ((BitVec.ofInt 64 (-1) ^^^ BitVec.ofInt 64 n).toNat : Int) = _
  have hz : BitVec.ofInt 64 (-1) = BitVec.allOnes 64 := by decide
  rw [hz, BitVec.allOnes_xor, BitVec.toNat_not, BitVec.toNat_ofInt, IntKind.wrap_i64]
  omega

theorem or_shift (n k : Nat) (z q : Int) (hz0 : 0 ≤ z) (hz1 : z ≤ 255) (hk : k ≤ 9) (hn : n < 128 ^ k) (h9 : k = 9 → z ≤ 1) (hq : q = 7 * k) :
    bits .or .u64 (n : Int) (IntKind.u64.wrap (IntKind.u64.wrap (bits .and .u8 z 127) * 2 ^ q.toNat)) = ((n + (z % 128).toNat * 128 ^ k : Nat) : Int) := by
  have h1 : bits .and .u8 z 127 = z % 128 := bits_mask .u8 8 (by decide) wraps_u8 7 (by decide) z hz0 (by omega)
  have hq' : q.toNat = 7 * k := by omega
  rw [h1, hq']
  obtain ⟨m, rfl⟩ := Int.eq_ofNat_of_zero_le hz0
  have e1 : ((m : Int) % 128).toNat = m % 128 := by omega
  have e2 : IntKind.u64.wrap ((m : Int) % 128) = ((m % 128 : Nat) : Int) := by rw [wrap64]; omega
  have e3 : (2 : Int) ^ (7 * k) = ((128 ^ k : Nat) : Int) := by
    rw [Int.pow_mul, show (2 : Int) ^ 7 = 128 from by decide]; exact (Int.natCast_pow 128 k).symm
  rw [e1, e2, e3]
  have hb : m % 128 * 128 ^ k < 18446744073709551616 := by
    rcases Nat.lt_or_ge k 9 with h | h
    · have : 128 ^ k ≤ 128 ^ 8 := Nat.pow_le_pow_right (by omega) (by omega)
      have h2 : m % 128 * 128 ^ k ≤ 127 * 128 ^ 8 := Nat.mul_le_mul (by omega) this
      exact Nat.lt_of_le_of_lt h2 (by decide)
    · obtain rfl : k = 9 := by omega
      have := h9 rfl
      have h2 : m % 128 * 128 ^ 9 ≤ 1 * 128 ^ 9 := Nat.mul_le_mul_right _ (by omega)
      exact Nat.lt_of_le_of_lt h2 (by decide)
  have e4 : IntKind.u64.wrap (((m % 128 : Nat) : Int) * ((128 ^ k : Nat) : Int)) = ((m % 128 * 128 ^ k : Nat) : Int) := by
    rw [← Int.natCast_mul, wrap64]
    clear e1 e2 e3 h1 hq'
    generalize m % 128 * 128 ^ k = t at hb ⊢
    omega
  rw [e4]
  have hn2 : n < 2 ^ (7 * k) := by rw [Nat.pow_mul]; exact hn
  have hnb : n < 18446744073709551616 := by
    have : 128 ^ k ≤ 128 ^ 9 := Nat.pow_le_pow_right (by omega) hk
    exact Nat.lt_of_lt_of_le hn (Nat.le_trans this (by decide))
  have ho := (bits_nat .u64 64 (by decide) (fun x h0 h1 => by rw [wrap64]; exact Int.emod_eq_of_lt h0 h1) n (m % 128 * 128 ^ k) hnb hb).2
  rw [ho]
  have h3 := Nat.two_pow_add_eq_or_of_lt hn2 (m % 128)
  have e5 : 2 ^ (7 * k) * (m % 128) = m % 128 * 128 ^ k := by rw [Nat.pow_mul, Nat.mul_comm]
  rw [e5] at h3
  rw [Nat.or_comm, ← h3, Nat.add_comm]

/-- A number with a sign, out of one without. -/
def zag (u : Nat) : Int := if u % 2 = 0 then ((u / 2 : Nat) : Int) else -((u / 2 : Nat) : Int) - 1
theorem zag_zig {n : Int} : zag (zig n) = n := by
  unfold zag zig
  split <;> split <;> omega
theorem zig_zag (u : Nat) : zig (zag u) = u := by
  unfold zag zig
  split <;> split <;> omega
theorem xor0_i64 (n : Int) (h0 : -9223372036854775808 ≤ n) (h1 : n ≤ 9223372036854775807) : bits .xor .i64 n 0 = n := by
  show IntKind.i64.wrap ((BitVec.ofInt 64 n ^^^ BitVec.ofInt 64 0).toNat : Int) = _
  have hz : BitVec.ofInt 64 0 = 0#64 := rfl
  rw [hz, BitVec.xor_zero, BitVec.toNat_ofInt, IntKind.wrap_i64]
  omega
theorem xor1_i64 (n : Int) (h0 : -9223372036854775808 ≤ n) (h1 : n ≤ 9223372036854775807) : bits .xor .i64 n (-1) = -1 - n := by
  show IntKind.i64.wrap ((BitVec.ofInt 64 n ^^^ BitVec.ofInt 64 (-1)).toNat : Int) = _
  have hz : BitVec.ofInt 64 (-1) = BitVec.allOnes 64 := by decide
  rw [hz, BitVec.xor_allOnes, BitVec.toNat_not, BitVec.toNat_ofInt, IntKind.wrap_i64]
  omega
theorem and1_u64 (u : Nat) : bits .and .u64 (u : Int) 1 = ((u % 2 : Nat) : Int) := by
  rw [and64]
  have h1 : BitVec.ofInt 64 (u : Int) = BitVec.ofNat 64 u := BitVec.ofInt_natCast 64 u
  have h2 : BitVec.ofInt 64 1 = 1#64 := rfl
  rw [h1, h2, BitVec.toNat_and, BitVec.toNat_ofNat]
  have h3 : (1#64).toNat = 2 ^ 1 - 1 := rfl
  rw [h3, Nat.and_two_pow_sub_one_eq_mod]
  omega
theorem zag_bits (u : Nat) (hu : u < 18446744073709551616) : bits .xor .i64 (RowKit.wrap64 (↑u / 2)) (RowKit.wrap64 (-RowKit.wrap64 (bits .and .u64 ↑u 1))) = zag u := by
  rw [and1_u64]
  have h1 : RowKit.wrap64 ((u : Int) / 2) = (u : Int) / 2 := by unfold RowKit.wrap64; omega
  have h2 : RowKit.wrap64 (-RowKit.wrap64 ((u % 2 : Nat) : Int)) = -((u % 2 : Nat) : Int) := by unfold RowKit.wrap64; omega
  rw [h1, h2]
  unfold zag
  by_cases h : u % 2 = 0
  · rw [if_pos h, h, show -((0 : Nat) : Int) = 0 from rfl, xor0_i64 _ (by omega) (by omega)]; omega
  · rw [if_neg h, show u % 2 = 1 by omega, show -((1 : Nat) : Int) = -1 from rfl, xor1_i64 _ (by omega) (by omega)]; omega

theorem or_lo (i a m : Nat) (ha : a < 2 ^ i) (hb : m * 2 ^ i + a < 4294967296) : bits .or .u32 (a : Int) ((m * 2 ^ i : Nat) : Int) = ((a + m * 2 ^ i : Nat) : Int) := by
  have ho := (bits_nat .u32 32 (by decide) (fun x h0 h1 => by rw [IntKind.wrap_u32]; exact Int.emod_eq_of_lt h0 h1) a (m * 2 ^ i) (by omega) (by omega)).2
  rw [ho]
  have h3 := Nat.two_pow_add_eq_or_of_lt ha m
  rw [Nat.mul_comm] at h3
  rw [Nat.or_comm, ← h3, Nat.add_comm]
def le4 (a b c d : Int) : Nat := a.toNat + b.toNat * 256 + c.toNat * 65536 + d.toNat * 16777216
theorem le4_bits {a b c d : Int} (ha : 0 ≤ a ∧ a ≤ 255) (hb : 0 ≤ b ∧ b ≤ 255) (hc : 0 ≤ c ∧ c ≤ 255) (hd : 0 ≤ d ∧ d ≤ 255) :
    bits .or .u32 (bits .or .u32 (bits .or .u32 a (b * 256)) (c * 65536)) (d * 16777216) = ((le4 a b c d : Nat) : Int) := by
  obtain ⟨a, rfl⟩ := Int.eq_ofNat_of_zero_le ha.1
  obtain ⟨b, rfl⟩ := Int.eq_ofNat_of_zero_le hb.1
  obtain ⟨c, rfl⟩ := Int.eq_ofNat_of_zero_le hc.1
  obtain ⟨d, rfl⟩ := Int.eq_ofNat_of_zero_le hd.1
  have e1 : ((b : Int) * 256) = ((b * 2 ^ 8 : Nat) : Int) := by simp
  have e2 : ((c : Int) * 65536) = ((c * 2 ^ 16 : Nat) : Int) := by simp
  have e3 : ((d : Int) * 16777216) = ((d * 2 ^ 24 : Nat) : Int) := by simp
  rw [e1, e2, e3, or_lo 8 a b (by omega) (by omega), or_lo 16 (a + b * 2 ^ 8) c (by omega) (by omega), or_lo 24 (a + b * 2 ^ 8 + c * 2 ^ 16) d (by omega) (by omega)]
  unfold le4
  simp only [Int.toNat_natCast]

end Go.Proofs.Ythemincohmgihaa.Bit
