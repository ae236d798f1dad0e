/- Bit operations on whole numbers, in the walk's own spelling, as operations on rows of bits. It speaks of no program. -/
import Derived.Laws.BitsLemmas
import Derived.Laws.BitsAllLaws
namespace Go.Proofs.Ytpgnlpcnancplaa.Bit

theorem wrap64 (n : Int) : IntKind.u64.wrap n = n % 18446744073709551616 := by simp [IntKind.wrap, IntKind.bits, IntKind.signed]
theorem w8 (x : BitVec 8) : IntKind.u8.wrap (x.toNat : Int) = (x.toNat : Int) := by
  rw [IntKind.wrap_u8]
  have := x.isLt
  omega
theorem xor8 (a b : Int) : bits .xor .u8 a b = ((BitVec.ofInt 8 a ^^^ BitVec.ofInt 8 b).toNat : Int) := w8 _
theorem or8 (a b : Int) : bits .or .u8 a b = ((BitVec.ofInt 8 a ||| BitVec.ofInt 8 b).toNat : Int) := w8 _
theorem and8 (a b : Int) : bits .and .u8 a b = ((BitVec.ofInt 8 a &&& BitVec.ofInt 8 b).toNat : Int) := w8 _
theorem w32 (x : BitVec 32) : IntKind.u32.wrap (x.toNat : Int) = (x.toNat : Int) := by
  rw [IntKind.wrap_u32]
  have := x.isLt
  omega
theorem xor32 (a b : Int) : bits .xor .u32 a b = ((BitVec.ofInt 32 a ^^^ BitVec.ofInt 32 b).toNat : Int) := w32 _
theorem or32 (a b : Int) : bits .or .u32 a b = ((BitVec.ofInt 32 a ||| BitVec.ofInt 32 b).toNat : Int) := w32 _
theorem and32 (a b : Int) : bits .and .u32 a b = ((BitVec.ofInt 32 a &&& BitVec.ofInt 32 b).toNat : Int) := w32 _
theorem w64 (x : BitVec 64) : IntKind.u64.wrap (x.toNat : Int) = (x.toNat : Int) := by
  rw [wrap64]
  have := x.isLt
  omega
theorem xor64 (a b : Int) : bits .xor .u64 a b = ((BitVec.ofInt 64 a ^^^ BitVec.ofInt 64 b).toNat : Int) := w64 _
theorem or64 (a b : Int) : bits .or .u64 a b = ((BitVec.ofInt 64 a ||| BitVec.ofInt 64 b).toNat : Int) := w64 _
theorem and64 (a b : Int) : bits .and .u64 a b = ((BitVec.ofInt 64 a &&& BitVec.ofInt 64 b).toNat : Int) := w64 _
theorem ofInt_wrap64 (n : Int) : BitVec.ofInt 64 (IntKind.u64.wrap n) = BitVec.ofInt 64 n := by
  rw [wrap64]
  apply BitVec.eq_of_toNat_eq
  simp only [BitVec.toNat_ofInt]
  omega

/-- A number with a sign as one without. -/
def zig (n : Int) : Nat := if 0 ≤ n then (2 * n).toNat else (-2 * n - 1).toNat
theorem zig_lt {n : Int} (h0 : -9223372036854775808 ≤ n) (h1 : n ≤ 9223372036854775807) : zig n < 18446744073709551616 := by
  unfold zig; split <;> omega
theorem zig_bits (n : Int) (h0 : -9223372036854775808 ≤ n) (h1 : n ≤ 9223372036854775807) :
    bits .xor .u64 (IntKind.u64.wrap (IntKind.u64.wrap n * 2)) (IntKind.u64.wrap (n / 9223372036854775808)) = ((zig n : Nat) : Int) := by
  rw [xor64, ofInt_wrap64, ofInt_wrap64, wrap64]
  by_cases h : 0 ≤ n
  · have hd : n / 9223372036854775808 = 0 := by omega
    rw [hd]
    have hz : BitVec.ofInt 64 0 = 0#64 := rfl
    rw [hz, BitVec.xor_zero, BitVec.toNat_ofInt]
    unfold zig; rw [if_pos h]; omega
  · have hd : n / 9223372036854775808 = -1 := by omega
    rw [hd]
    have hz : BitVec.ofInt 64 (-1) = BitVec.allOnes 64 := by decide
    rw [hz, BitVec.xor_allOnes, BitVec.toNat_not, BitVec.toNat_ofInt]
    unfold zig; rw [if_neg h]; omega
theorem or128 (m : Nat) : bits .or .u8 ((m : Int) % 256) 128 = ((m % 128 + 128 : Nat) : Int) := by
  rw [or8]
  have h1 : BitVec.ofInt 8 ((m : Int) % 256) = BitVec.ofNat 8 m := by
    apply BitVec.eq_of_toNat_eq; simp only [BitVec.toNat_ofInt, BitVec.toNat_ofNat]; omega
  have h2 : BitVec.ofInt 8 128 = 128#8 := by decide
  rw [h1, h2]
  have h3 : ∀ x : BitVec 8, (x ||| 128#8).toNat = x.toNat % 128 + 128 := by decide
  rw [h3, BitVec.toNat_ofNat]
  omega

theorem not_i64 (n : Int) (h0 : -9223372036854775808 ≤ n) (h1 : n ≤ 9223372036854775807) : bits .xor .i64 (-1) n = -1 - n := by
  show IntKind.i64.wrap ((BitVec.ofInt 64 (-1) ^^^ BitVec.ofInt 64 n).toNat : Int) = _
  have hz : BitVec.ofInt 64 (-1) = BitVec.allOnes 64 := by decide
  rw [hz, BitVec.allOnes_xor, BitVec.toNat_not, BitVec.toNat_ofInt, IntKind.wrap_i64]
  omega

end Go.Proofs.Ytpgnlpcnancplaa.Bit
