/- P13.1, without the document's answer: hashes of one beginning have one register; a hash below another one, of as many noughts, no other number: at every input. -/
import Derived.Test.YtolhhbnamldghaaPHllPlacesx2
import Derived.Test.YtolhhbnamldghaaHllM
import Derived.Test.YtolhhbnamldghaaBit
import Derived.Test.YtolhhbnamldghaaOwnB
namespace Go.Proofs.Ytolhhbnamldghaa.Pure
open Go.RowKit Go.Proofs.Ytolhhbnamldghaa.PHllPlaces Go.Proofs.YtolhhbnamldghaaW.PrintWords Go.Proofs.YtolhhbnamldghaaW.PrintLast Go.Proofs.YtolhhbnamldghaaW.PrintMore Go.Proofs.Ytolhhbnamldghaa.HllM

theorem pow_cast (n : Nat) : ((2 : Int) ^ n) = ((2 ^ n : Nat) : Int) := by rw [Int.natCast_pow]; rfl
theorem place_f (p : Nat) (h4 : 4 ≤ p) (h8 : p ≤ 8) (R : List Int) (h : Int) (hh : IsHash h) : hll_Hll_Place.f p R h = some ((iOf p h : Int), nOf p h) := by
  have e : mn (mx (p : Int) 4) 8 = p := by unfold mn mx; split <;> split <;> omega
  unfold hll_Hll_Place.f bits_LeadingZeros64.f
  rw [e, Int.toNat_natCast, Bit.wrap64]
  have hm0 : 0 ≤ h * 2 ^ p % 18446744073709551616 := Int.emod_nonneg _ (by decide)
  have hm1 : h * 2 ^ p % 18446744073709551616 < 18446744073709551616 := Int.emod_lt_of_pos _ (by decide)
  rw [if_pos ⟨hm0, by omega⟩]
  simp only [Option.bind_some, Option.some.injEq, Prod.mk.injEq]
  have hi := iOf_lt h8 hh
  have hp : 2 ^ p ≤ 2 ^ 8 := Nat.pow_le_pow_right (by omega) h8
  have ei : (64 - (p : Int)).toNat = 64 - p := by omega
  constructor
  · unfold iOf at hi ⊢
    rw [ei]
    have h0 : 0 ≤ h / 2 ^ (64 - p) := Int.ediv_nonneg hh.1 (by rw [pow_cast]; exact Int.natCast_nonneg _)
    generalize h / 2 ^ (64 - p) = q at *
    unfold wrap64; omega
  · have hb := bitLen_le (h * 2 ^ p % 18446744073709551616).toNat
    unfold nOf
    generalize Lib.bitLen (h * 2 ^ p % 18446744073709551616).toNat = q at *
    have : mn (64 - (q : Int)) (64 - p) = min (64 - (q : Int)) (64 - p) := by unfold mn; split <;> omega
    rw [this]
    unfold wrap64; omega

theorem split64 {p : Nat} (h8 : p ≤ 8) : 2 ^ (64 - p) * 2 ^ p = 18446744073709551616 := by
  rw [← Nat.pow_add, show 64 - p + p = 64 by omega]
theorem hash_lt {p t l : Nat} (h8 : p ≤ 8) (ht : t < 2 ^ p) (hl : l < 2 ^ (64 - p)) : t * 2 ^ (64 - p) + l < 18446744073709551616 := by
  have h1 := split64 h8
  have h2 : (t + 1) * 2 ^ (64 - p) ≤ 2 ^ p * 2 ^ (64 - p) := Nat.mul_le_mul_right _ ht
  rw [Nat.mul_comm (2 ^ p), h1, Nat.add_mul] at h2
  omega
theorem iOf_nat {p t l : Nat} (hl : l < 2 ^ (64 - p)) : iOf p ((t * 2 ^ (64 - p) + l : Nat) : Int) = t := by
  unfold iOf
  rw [pow_cast, ← Int.natCast_ediv, Int.toNat_natCast, Nat.add_comm, Nat.add_mul_div_right _ _ (Nat.pow_pos (by omega)), Nat.div_eq_of_lt hl, Nat.zero_add]
theorem bl_shift {p l : Nat} (hl : l * 2 ^ p < 2 ^ 64) (h0 : 0 < l) : Lib.bitLen (l * 2 ^ p) = p + Lib.bitLen l := by
  rw [Lib.bitLen_shift p (l * 2 ^ p) (Nat.le_mul_of_pos_left _ h0) hl, Nat.mul_div_cancel _ (Nat.pow_pos (by omega))]
theorem nOf_nat {p t l : Nat} (h8 : p ≤ 8) (hl : l < 2 ^ (64 - p)) : nOf p ((t * 2 ^ (64 - p) + l : Nat) : Int) = 65 - (p : Int) - Lib.bitLen l := by
  have hy : (((t * 2 ^ (64 - p) + l : Nat) : Int) * 2 ^ p % 18446744073709551616).toNat = l * 2 ^ p := by
    have e : ((((t * 2 ^ (64 - p) + l : Nat)) : Int) * 2 ^ p % 18446744073709551616) = (((t * 2 ^ (64 - p) + l) * 2 ^ p % 18446744073709551616 : Nat) : Int) := by rw [pow_cast]; omega
    rw [e, Int.toNat_natCast, ← split64 h8, Nat.mul_mod_mul_right, Nat.add_comm, Nat.add_mul_mod_self_right, Nat.mod_eq_of_lt hl]
  have hb := Lib.bitLen_le l (64 - p) (by omega) hl
  have hlt : l * 2 ^ p < 2 ^ 64 := by
    have := Nat.mul_lt_mul_of_pos_right hl (show 0 < 2 ^ p from Nat.pow_pos (by omega))
    rw [split64 h8] at this
    exact this
  unfold nOf
  rw [hy]
  by_cases h0 : l = 0
  · subst h0
    rw [Nat.zero_mul]
    have : Lib.bitLen 0 = 0 := by decide
    rw [this]; omega
  · rw [bl_shift hlt (by omega)]; omega
theorem bl_div {l m : Nat} (hl : l < 2 ^ 64) (hm : m ≤ 7) : Lib.bitLen (l / 2 ^ m) = Lib.bitLen l - m := by
  by_cases h : 2 ^ m ≤ l
  · have := Lib.bitLen_shift m l h hl; omega
  · have h1 := Lib.bitLen_le l m (by omega) (by omega)
    rw [Nat.div_eq_of_lt (by omega)]
    have : Lib.bitLen 0 = 0 := by decide
    omega
theorem shr_n (m b : Nat) (hb : b ≤ 64) : shr .u64 (m : Int) (b : Int) = ((m / 2 ^ b : Nat) : Int) := by
  unfold shr
  rw [Int.toNat_natCast, show min b IntKind.u64.bits = b by simp [IntKind.bits]; omega, pow_cast, Int.natCast_ediv]
theorem shl_n (m b : Nat) (hb : b ≤ 64) : shl .u64 (m : Int) (b : Int) = ((m * 2 ^ b % 18446744073709551616 : Nat) : Int) := by
  unfold shl
  rw [Int.toNat_natCast, show min b IntKind.u64.bits = b by simp [IntKind.bits]; omega, pow_cast, Bit.wrap64]
  omega
theorem or_n {q t l : Nat} (hl : l < 2 ^ q) (hlt : t * 2 ^ q + l < 2 ^ 64) : Go.bits .or .u64 ((t * 2 ^ q : Nat) : Int) (l : Int) = ((t * 2 ^ q + l : Nat) : Int) := by
  rw [Bit.or64, BitVec.ofInt_natCast, BitVec.ofInt_natCast, BitVec.toNat_or, BitVec.toNat_ofNat, BitVec.toNat_ofNat, Nat.mod_eq_of_lt (by omega), Nat.mod_eq_of_lt (by omega), Nat.mul_comm t, Nat.two_pow_add_eq_or_of_lt hl]
theorem ishash {n : Nat} (h : n < 18446744073709551616) : IsHash (n : Int) := ⟨by omega, by omega⟩

theorem places (p : Nat) (h4 : 4 ≤ p) (h8 : p ≤ 8) (R : List Int) (t l m : Nat) (ht : t < 2 ^ p) (hl : l < 2 ^ (64 - p)) (hm : m ≤ 7) :
    hll_Hll_Place.f p R ((t * 2 ^ (64 - p) + l : Nat) : Int) = some ((t : Int), 65 - (p : Int) - Lib.bitLen l) ∧
    hll_Hll_Place.f p R (Go.bits .or .u64 ((t * 2 ^ (64 - p) : Nat) : Int) ((l / 2 ^ m : Nat) : Int)) = some ((t : Int), 65 - (p : Int) - (Lib.bitLen l - m : Nat)) ∧
    hll_Hll_Place.f p R ((t * 2 ^ (64 - p) : Nat) : Int) = some ((t : Int), 65 - (p : Int)) := by
  have hl2 : l / 2 ^ m < 2 ^ (64 - p) := Nat.lt_of_le_of_lt (Nat.div_le_self _ _) hl
  have hq : 2 ^ (64 - p) ≤ 2 ^ 64 := Nat.pow_le_pow_right (by omega) (by omega)
  refine ⟨?_, ?_, ?_⟩
  · rw [place_f p h4 h8 R _ (ishash (hash_lt h8 ht hl)), iOf_nat hl, nOf_nat h8 hl]
  · rw [or_n hl2 (hash_lt h8 ht hl2), place_f p h4 h8 R _ (ishash (hash_lt h8 ht hl2)), iOf_nat hl2, nOf_nat h8 hl2, bl_div (Nat.lt_of_lt_of_le hl hq) hm]
  · have h0 : 0 < 2 ^ (64 - p) := Nat.pow_pos (by omega)
    have h1 := place_f p h4 h8 R _ (ishash (hash_lt h8 ht h0))
    rw [iOf_nat h0, nOf_nat h8 h0] at h1
    have e : Lib.bitLen 0 = 0 := by decide
    rw [e, Nat.add_zero] at h1
    rw [h1]
    simp
theorem pw {p : Nat} (h4 : 4 ≤ p) (h8 : p ≤ 8) : hll_New.f (p : Int) = some ((p : Int), List.replicate (2 ^ p) 0, true) := by
  have : p = 4 ∨ p = 5 ∨ p = 6 ∨ p = 7 ∨ p = 8 := by omega
  rcases this with rfl | rfl | rfl | rfl | rfl <;> rfl
theorem shl1 {p : Nat} (h4 : 4 ≤ p) (h8 : p ≤ 8) : shl .i64 1 (p : Int) = ((2 ^ p : Nat) : Int) := by
  have : p = 4 ∨ p = 5 ∨ p = 6 ∨ p = 7 ∨ p = 8 := by omega
  rcases this with rfl | rfl | rfl | rfl | rfl <;> rfl
theorem mn_eq (a b : Int) : mn a b = min a b := by unfold mn; split <;> omega

theorem fin_ {p t b m : Nat} (h4 : 4 ≤ p) (h8 : p ≤ 8) (ht : t < 2 ^ p) (hb : b ≤ 64 - p) (hm : m ≤ 7) :
    (if (0 : Int) ≤ ((64 - p : Nat) : Int) then if (0 : Int) ≤ (p : Int) then if (0 : Int) ≤ (m : Int) then
      if (t : Int) < shl .i64 1 (p : Int) then if 65 - (p : Int) - (b : Int) ≥ 1 then if wrap64 (65 - (p : Int) - (b : Int)) ≤ wrap64 (65 - (p : Int)) then
        some (wrap64 (65 - (p : Int) - ((b - m : Nat) : Int)) == mn (wrap64 (wrap64 (65 - (p : Int) - (b : Int)) + wrap64 (m : Int))) (wrap64 (65 - (p : Int)))) else some false else some false else some false else none else none else none) = some true := by
  have g1 : (t : Int) < ((2 ^ p : Nat) : Int) := by omega
  have g2 : 65 - (p : Int) - b ≥ 1 := by omega
  have g3 : 65 - (p : Int) - b ≤ 65 - p := by omega
  have g4 : (65 - (p : Int) - (b - m : Nat)) = min (65 - (p : Int) - b + m) (65 - p) := by omega
  rw [show wrap64 (65 - (p : Int)) = 65 - p by unfold wrap64; omega, show wrap64 (65 - (p : Int) - b) = 65 - p - b by unfold wrap64; omega,
    show wrap64 (65 - (p : Int) - (b - m : Nat)) = 65 - p - (b - m : Nat) by unfold wrap64; omega, show wrap64 (m : Int) = m by unfold wrap64; omega,
    show wrap64 (65 - (p : Int) - b + m) = 65 - p - b + m by unfold wrap64; omega,
    if_pos (Int.natCast_nonneg _), if_pos (Int.natCast_nonneg _), if_pos (Int.natCast_nonneg _), shl1 h4 h8, if_pos g1, if_pos g2, if_pos g3, mn_eq, ← g4]
  simp

theorem HllPlaces : herbariumlaw13_HllPlaces.Pure := by
  intro a0 a1 a2 h0 h1 h2
  have h0' : 0 ≤ a0 ∧ a0 ≤ 255 := by simp [Lit.wf, IntKind.min, IntKind.max, IntKind.signed, IntKind.bits] at h0; omega
  have h1' : 0 ≤ a1 ∧ a1 ≤ 18446744073709551615 := by simp [Lit.wf, IntKind.min, IntKind.max, IntKind.signed, IntKind.bits] at h1; omega
  have h2' : 0 ≤ a2 ∧ a2 ≤ 255 := by simp [Lit.wf, IntKind.min, IntKind.max, IntKind.signed, IntKind.bits] at h2; omega
  obtain ⟨p, hp, h4, h8⟩ : ∃ p : Nat, wrap64 (4 + wrap64 (Int.tmod a0 5)) = p ∧ 4 ≤ p ∧ p ≤ 8 := by
    have e : Int.tmod a0 5 = a0 % 5 := Int.tmod_eq_emod_of_nonneg h0'.1
    refine ⟨(4 + a0 % 5).toNat, ?_, by omega, by omega⟩
    rw [e]; unfold wrap64; omega
  obtain ⟨m, hm, hm7⟩ : ∃ m : Nat, Int.tmod a2 8 = m ∧ m ≤ 7 := by
    have e : Int.tmod a2 8 = a2 % 8 := Int.tmod_eq_emod_of_nonneg h2'.1
    exact ⟨(a2 % 8).toNat, by omega, by omega⟩
  obtain ⟨H, rfl⟩ : ∃ H : Nat, a1 = H := ⟨a1.toNat, by omega⟩
  have hH : H < 18446744073709551616 := by omega
  have hpos : 0 < 2 ^ (64 - p) := Nat.pow_pos (by omega)
  obtain ⟨t, ht⟩ : ∃ t, H / 2 ^ (64 - p) = t := ⟨_, rfl⟩
  obtain ⟨l, hl⟩ : ∃ l, H % 2 ^ (64 - p) = l := ⟨_, rfl⟩
  have hHe : H = t * 2 ^ (64 - p) + l := by rw [← ht, ← hl, Nat.mul_comm]; exact (Nat.div_add_mod _ _).symm
  have hll : l < 2 ^ (64 - p) := by rw [← hl]; exact Nat.mod_lt _ hpos
  have htt : t < 2 ^ p := by
    rw [← ht]; apply Nat.div_lt_of_lt_mul; rw [split64 h8]; exact hH
  have hq : wrap64 (64 - (p : Int)) = ((64 - p : Nat) : Int) := by unfold wrap64; omega
  have e1 : shr .u64 (H : Int) ((64 - p : Nat) : Int) = (t : Int) := by rw [shr_n _ _ (by omega), ht]
  have e2 : shl .u64 (t : Int) ((64 - p : Nat) : Int) = ((t * 2 ^ (64 - p) : Nat) : Int) := by
    rw [shl_n _ _ (by omega), Nat.mod_eq_of_lt]
    have := hash_lt h8 htt hpos
    omega
  have e3 : shl .u64 (H : Int) (p : Int) = ((l * 2 ^ p : Nat) : Int) := by
    rw [shl_n _ _ (by omega), ← split64 h8, Nat.mul_mod_mul_right, hl]
  have e4 : shr .u64 ((l * 2 ^ p : Nat) : Int) (p : Int) = (l : Int) := by
    rw [shr_n _ _ (by omega), Nat.mul_div_cancel _ (Nat.pow_pos (by omega))]
  have e5 : shr .u64 (l : Int) (m : Int) = ((l / 2 ^ m : Nat) : Int) := shr_n _ _ (by omega)
  obtain ⟨p1, p2, p3⟩ := places p h4 h8 (List.replicate (2 ^ p) 0) t l m htt hll hm7
  rw [← hHe] at p1
  have hb : Lib.bitLen l ≤ 64 - p := Lib.bitLen_le l (64 - p) (by omega) hll
  unfold herbariumlaw13_HllPlaces.f herbariumlaw13_Awake.f
  simp only [Option.bind_some, if_true, hp, pw h4 h8, hq, e1, e2, e3, e4, hm, e5, p1, p2, p3, hll_Hll_Top.f]
  exact fin_ h4 h8 htt hb hm7
end Go.Proofs.Ytolhhbnamldghaa.Pure
