/- P13.1: any hashes: each register is the longest row of its own: at every input. -/
import Derived.Test.YtolhhbnamldghaaPHllAddsx4
import Derived.Test.YtolhhbnamldghaaHllM
import Derived.Test.YtolhhbnamldghaaBit
import Derived.Test.YtolhhbnamldghaaOwnB
namespace Go.Proofs.Ytolhhbnamldghaa.Pure
open Go.RowKit Go.Proofs.Ytolhhbnamldghaa.PHllAdds Go.Proofs.YtolhhbnamldghaaW.PrintWords Go.Proofs.YtolhhbnamldghaaW.PrintLast Go.Proofs.YtolhhbnamldghaaW.PrintMore Go.Proofs.Ytolhhbnamldghaa.HllM

theorem pow_cast (n : Nat) : ((2 : Int) ^ n) = ((2 ^ n : Nat) : Int) := by rw [Int.natCast_pow]; rfl
theorem place_f (p : Nat) (h4 : 4 ≤ p) (h8 : p ≤ 8) (R : List Int) (h : Int) (hh : IsHash h) : hll_Hll_Place.f p R h = some ((iOf p h : Int), nOf p h) := by
  have e : mn (mx (p : Int) 4) 8 = p := by unfold mn mx; split <;> split <;> omega
  unfold hll_Hll_Place.f bits_LeadingZeros64.f
  rw [e, Int.toNat_natCast, Bit.wrap64]
  have hm0 : 0 ≤ h * 2 ^ p % 18446744073709551616 := Int.emod_nonneg _ (by decide)
  have hm1 : h * 2 ^ p % 18446744073709551616 < 18446744073709551616 := Int.emod_lt_of_pos _ (by decide)
  rw [if_pos ⟨hm0, by omega⟩]
  simp only [Option.bind_some, Option.some.injEq, Prod.mk.injEq]
  have hi := iOf_lt h8 hh
  have hp : 2 ^ p ≤ 2 ^ 8 := Nat.pow_le_pow_right (by omega) h8
  have ei : (64 - (p : Int)).toNat = 64 - p := by omega
  constructor
  · unfold iOf at hi ⊢
    rw [ei]
    have h0 : 0 ≤ h / 2 ^ (64 - p) := Int.ediv_nonneg hh.1 (by rw [pow_cast]; exact Int.natCast_nonneg _)
    generalize h / 2 ^ (64 - p) = q at *
    unfold wrap64; omega
  · have hb := bitLen_le (h * 2 ^ p % 18446744073709551616).toNat
    unfold nOf
    generalize Lib.bitLen (h * 2 ^ p % 18446744073709551616).toNat = q at *
    have : mn (64 - (q : Int)) (64 - p) = min (64 - (q : Int)) (64 - p) := by unfold mn; split <;> omega
    rw [this]
    unfold wrap64; omega
theorem rd_eq (R : List Int) (i : Nat) : rd R i = R.getD i 0 := by unfold rd; rw [Int.toNat_natCast]
theorem mx_eq (a b : Int) : mx a b = max a b := by unfold mx; split <;> omega
theorem add_f (p : Nat) (h4 : 4 ≤ p) (h8 : p ≤ 8) (R : List Int) (hR : Regs p R) (h : Int) (hh : IsHash h) : hll_Hll_Add.f p R h = some ((p : Int), upd p R h) := by
  have hp : 2 ^ p ≤ 2 ^ 8 := Nat.pow_le_pow_right (by omega) h8
  have hl : R.length ≤ 256 := by rw [hR]; exact hp
  have hi : iOf p h < R.length := by rw [hR]; exact iOf_lt h8 hh
  unfold hll_Hll_Add.f
  simp only [Option.bind_some, List.nil_append, List.length_nil, Nat.zero_add, place_f p h4 h8 R h hh]
  rw [if_pos (by omega), if_pos (by omega), if_pos (by omega), Int.toNat_natCast, rd_eq, mx_eq]
  rfl
theorem hash_f (h : Int) (hh : IsHash h) : ∃ g, herbariumlaw13_Hash.f h = some g ∧ IsHash g := by
  unfold herbariumlaw13_Hash.f
  by_cases h3 : Int.tmod h 3 = 0
  · rw [if_pos h3]
    have h0 : 0 ≤ (IntKind.u64.wrap (Int.tdiv h 4)).tmod 56 := by
      apply Int.tmod_nonneg
      rw [Bit.wrap64]
      exact Int.emod_nonneg _ (by decide)
    rw [if_pos h0]
    refine ⟨_, rfl, ?_⟩
    rw [Bit.or64]
    have := BitVec.isLt (BitVec.ofInt 64 (IntKind.u64.wrap (h / 72057594037927936 * 72057594037927936)) ||| BitVec.ofInt 64 (Go.bits .and .u64 h (IntKind.u64.wrap (shl IntKind.u64 1 ((IntKind.u64.wrap (h.tdiv 4)).tmod 56) - 1))))
    exact ⟨by omega, by omega⟩
  · rw [if_neg h3]; exact ⟨h, rfl, hh⟩
def hsh (h : Int) : Int := (herbariumlaw13_Hash.f h).getD 0
theorem hsh_f {h : Int} (hh : IsHash h) : herbariumlaw13_Hash.f h = some (hsh h) ∧ IsHash (hsh h) := by
  obtain ⟨g, h1, h2⟩ := hash_f h hh
  unfold hsh
  rw [h1]; exact ⟨rfl, h2⟩
theorem wrap_succ {i : Nat} (h : i ≤ 1000000) : wrap64 ((i : Int) + 1) = ((i + 1 : Nat) : Int) := by unfold wrap64; omega
theorem getD_mem {l : List Int} {i : Nat} (h : i < l.length) : l.getD i 0 ∈ l := by
  rw [List.getD_eq_getElem?_getD, List.getElem?_eq_getElem h]; exact List.getElem_mem h
theorem drop_cons {l : List Int} {i : Nat} (h : i < l.length) : l.drop i = l.getD i 0 :: l.drop (i + 1) := by
  rw [List.drop_eq_getElem_cons h]; simp [List.getD_eq_getElem?_getD, List.getElem?_eq_getElem h]
theorem hll_l (p : Nat) (h4 : 4 ≤ p) (h8 : p ≤ 8) (l : List Int) (hl : ∀ x ∈ l, IsHash x) (hn : l.length ≤ 1000) (d : Nat) : ∀ (k i : Nat) (R : List Int), l.length - i = d → i ≤ l.length → d < k → Regs p R →
    herbariumlaw13_Hll.l0 k l (l.length : Int) i p R = some ((p : Int), ((l.drop i).map hsh).foldl (upd p) R) := by
  induction d with
  | zero =>
    intro k i R hd hi hk hR
    obtain ⟨k, rfl⟩ : ∃ m, k = m + 1 := ⟨k - 1, by omega⟩
    simp only [herbariumlaw13_Hll.l0]
    rw [if_neg (by omega), List.drop_of_length_le (by omega)]
    rfl
  | succ d ih =>
    intro k i R hd hi hk hR
    obtain ⟨k, rfl⟩ : ∃ m, k = m + 1 := ⟨k - 1, by omega⟩
    have hlt : i < l.length := by omega
    have hx := hsh_f (hl _ (getD_mem hlt))
    simp only [herbariumlaw13_Hll.l0]
    rw [if_pos (by omega), if_pos (by omega), if_pos (by omega), rd_eq, hx.1]
    simp only [Option.bind_some]
    rw [add_f p h4 h8 R hR _ hx.2]
    simp only [Option.bind_some]
    rw [wrap_succ (by omega), ih k (i + 1) _ (by omega) (by omega) (by omega) (hR.upd _), drop_cons hlt]
    rfl
theorem hll_f (a : Int) (ha : 0 ≤ a) (l : List Int) (hl : ∀ x ∈ l, IsHash x) (hn : l.length ≤ 1000) (k : Nat) (hk : l.length < k) (p : Nat) (hp : 4 + a % 5 = p) :
    herbariumlaw13_Hll.f k a l = some ((p : Int), (l.map hsh).foldl (upd p) (List.replicate (2 ^ p) 0)) ∧ 4 ≤ p ∧ p ≤ 8 := by
  have h4 : 4 ≤ p := by omega
  have h8 : p ≤ 8 := by omega
  refine ⟨?_, h4, h8⟩
  have e : wrap64 (4 + wrap64 (Int.tmod a 5)) = (p : Int) := by
    rw [Int.tmod_eq_emod_of_nonneg ha]
    unfold wrap64; omega
  have es : shl .i64 1 (p : Int) = ((2 ^ p : Nat) : Int) := by
    have : 2 ^ p ≤ 2 ^ 8 := Nat.pow_le_pow_right (by omega) h8
    unfold shl
    rw [show min (p : Int).toNat IntKind.i64.bits = p by simp [IntKind.bits]; omega, Int.one_mul, pow_cast]
    generalize 2 ^ p = q at this ⊢
    simp only [IntKind.wrap, IntKind.bits, IntKind.signed]
    simp
    omega
  have hp2 : 2 ^ p ≤ 2 ^ 8 := Nat.pow_le_pow_right (by omega) h8
  unfold herbariumlaw13_Hll.f
  rw [e]
  have en : hll_New.f (p : Int) = some ((p : Int), List.replicate (2 ^ p) 0, true) := by
    unfold hll_New.f
    rw [es, if_neg (by omega), if_neg (by omega), if_pos (by omega), if_pos (Int.natCast_nonneg _), Int.toNat_natCast, if_pos (by omega)]
  rw [en]
  simp only [Option.bind_some]
  have := hll_l p h4 h8 l hl hn l.length k 0 (List.replicate (2 ^ p) 0) (by omega) (by omega) hk (by simp [Regs])
  simpa using this

theorem noughts_l (p : Int) (R : List Int) (hn : R.length ≤ 1000) (d : Nat) : ∀ (k i c : Nat), R.length - i = d → i ≤ R.length → d < k → c ≤ 1000000 - d → hll_Hll_Noughts.l0 k c R (R.length : Int) i = some ((c + noughts (R.drop i) : Nat) : Int) := by
  induction d with
  | zero =>
    intro k i c hd hi hk hc
    obtain ⟨k, rfl⟩ : ∃ m, k = m + 1 := ⟨k - 1, by omega⟩
    simp only [hll_Hll_Noughts.l0]
    rw [if_neg (by omega), List.drop_of_length_le (by omega)]
    simp [noughts]
  | succ d ih =>
    intro k i c hd hi hk hc
    obtain ⟨k, rfl⟩ : ∃ m, k = m + 1 := ⟨k - 1, by omega⟩
    have hlt : i < R.length := by omega
    simp only [hll_Hll_Noughts.l0]
    rw [if_pos (by omega), if_pos (by omega), if_pos (by omega), rd_eq, drop_cons hlt]
    by_cases hz : R.getD i 0 = 0
    · rw [if_pos hz, wrap_succ (by omega), wrap_succ (by omega), ih k (i + 1) (c + 1) (by omega) (by omega) (by omega) (by omega), hz]
      simp [noughts]; omega
    · rw [if_neg hz, wrap_succ (by omega), ih k (i + 1) c (by omega) (by omega) (by omega) (by omega)]
      have hz' : ¬ (R[i]?.getD 0 = 0) := by simpa [List.getD_eq_getElem?_getD] using hz
      simp [noughts, List.countP_cons, hz']
theorem noughts_f (p : Int) (R : List Int) (hn : R.length ≤ 1000) (k : Nat) (hk : R.length < k) : hll_Hll_Noughts.f k p R = some ((noughts R : Nat) : Int) := by
  unfold hll_Hll_Noughts.f
  have := noughts_l p R hn R.length k 0 0 (by omega) (by omega) hk (by omega)
  simpa using this
theorem fold_nonneg {p : Nat} : ∀ (l : List Int) (R : List Int), (∀ x ∈ R, 0 ≤ x ∧ x ≤ 65 - p) → p ≤ 8 → ∀ x ∈ l.foldl (upd p) R, 0 ≤ x ∧ x ≤ 65 - p
  | [], _, h, _ => h
  | y :: l, R, h, h8 => fold_nonneg l _ (fun x hx => by
    unfold upd at hx
    have hb := nOf_bd h8 y
    rcases List.mem_or_eq_of_mem_set hx with h1 | rfl
    · exact h x h1
    · have : 0 ≤ R.getD (iOf p y) 0 ∧ R.getD (iOf p y) 0 ≤ 65 - p := by
        by_cases hi : iOf p y < R.length
        · exact h _ (getD_mem hi)
        · simp [List.getD_eq_getElem?_getD, List.getElem?_eq_none (by omega : R.length ≤ iOf p y)]; omega
      omega) h8
theorem shr_n (m b : Nat) (hb : b ≤ 64) : shr .u64 (m : Int) (b : Int) = ((m / 2 ^ b : Nat) : Int) := by
  unfold shr
  rw [Int.toNat_natCast, show min b IntKind.u64.bits = b by simp [IntKind.bits]; omega, pow_cast, Int.natCast_ediv]
/-- What comes behind the bits of a hash. -/
def exitV (k : Nat) (x5 : Int) (W : List Int) (h i n : Int) (X : List Int) (len j : Int) (p : Int) (R : List Int) : Option Bool :=
  (hll_Hll_Place.f p R h).bind fun bt => (if bt.1 = i then (if (wrap64 (bt.2)) = n then (if 0 ≤ i then (if i < (W.length : Int) then (herbariumlaw13_HllAdds.l0 k x5 (W.set (i : Int).toNat (mx (rd W i) n)) X len (wrap64 (j + 1)) p R) else (none)) else (none)) else (some false)) else (some false))
theorem bits_l (x5 : Int) (W : List Int) (m : Nat) (hm : m < 2 ^ 64) (p : Nat) (h4 : 4 ≤ p) (h8 : p ≤ 8) (i : Int) (X : List Int) (len j : Int) (pp : Int) (R : List Int) (K : Nat)
    (hok : ∀ k, K ≤ k → exitV k x5 W m i (nOf p m) X len j pp R = some true) (b : Nat) : ∀ (k : Nat), b ≤ 64 - p → (m % 2 ^ (64 - p)) / 2 ^ b = 0 → K + b + 1 ≤ k →
    herbariumlaw13_HllAdds.l1 k x5 W m i ((65 - p - b : Nat) : Int) ((b : Int) - 1) X len j pp R = some true := by
  have hy : (((m : Nat) : Int) * 2 ^ p % 18446744073709551616).toNat = (m % 2 ^ (64 - p)) * 2 ^ p := by
    have e : (((m : Nat) : Int) * 2 ^ p % 18446744073709551616) = ((m * 2 ^ p % 18446744073709551616 : Nat) : Int) := by rw [pow_cast]; omega
    rw [e, Int.toNat_natCast, show (18446744073709551616 : Nat) = 2 ^ (64 - p) * 2 ^ p by rw [← Nat.pow_add, show 64 - p + p = 64 by omega], Nat.mul_mod_mul_right]
  induction b with
  | zero =>
    intro k hb hz hk
    obtain ⟨k, rfl⟩ : ∃ q, k = q + 1 := ⟨k - 1, by omega⟩
    rw [herbariumlaw13_HllAdds.l1, if_neg (by omega)]
    have hn : nOf p m = ((65 - p - 0 : Nat) : Int) := by
      unfold nOf
      rw [hy]
      have : m % 2 ^ (64 - p) = 0 := by simpa using hz
      rw [this, Nat.zero_mul]
      have h0 : Lib.bitLen 0 = 0 := by decide
      rw [h0]; omega
    rw [← hn]
    exact hok k (by omega)
  | succ b ih =>
    intro k hb hz hk
    obtain ⟨k, rfl⟩ : ∃ q, k = q + 1 := ⟨k - 1, by omega⟩
    rw [herbariumlaw13_HllAdds.l1, show ((b + 1 : Nat) : Int) - 1 = (b : Int) by omega, if_pos (by omega), if_pos (by omega), shr_n m b (by omega)]
    have hd : (m % 2 ^ (64 - p)) / 2 ^ b < 2 := by
      have : (m % 2 ^ (64 - p)) / 2 ^ b / 2 = 0 := by rw [Nat.div_div_eq_div_mul, ← Nat.pow_succ]; exact hz
      omega
    have hbit : (m / 2 ^ b) % 2 = (m % 2 ^ (64 - p)) / 2 ^ b := by
      have e : m % 2 ^ (64 - p) / 2 ^ b = m / 2 ^ b % 2 ^ (64 - p - b) := by
        rw [show 2 ^ (64 - p) = 2 ^ b * 2 ^ (64 - p - b) by rw [← Nat.pow_add]; congr 1; omega, Nat.mod_mul_right_div_self]
      rw [e] at hd ⊢
      have e2 : m / 2 ^ b % 2 = (m / 2 ^ b % 2 ^ (64 - p - b)) % 2 := by
        rw [Nat.mod_mod_of_dvd]
        exact ⟨2 ^ (64 - p - b - 1), by rw [← Nat.pow_succ']; congr 1; omega⟩
      rw [e2]; omega
    rw [Int.tmod_eq_emod_of_nonneg (Int.natCast_nonneg _)]
    by_cases hz2 : (m % 2 ^ (64 - p)) / 2 ^ b = 0
    · rw [if_pos (by rw [hz2] at hbit; omega)]
      have e1 : wrap64 (((65 - p - (b + 1) : Nat) : Int) + 1) = ((65 - p - b : Nat) : Int) := by unfold wrap64; omega
      have e2 : wrap64 ((b : Int) - 1) = (b : Int) - 1 := by unfold wrap64; omega
      rw [e1, e2]
      exact ih k (by omega) hz2 (by omega)
    · have h1 : (m % 2 ^ (64 - p)) / 2 ^ b = 1 := by omega
      rw [if_neg (by rw [h1] at hbit; omega)]
      have hn : nOf p m = ((65 - p - (b + 1) : Nat) : Int) := by
        unfold nOf
        rw [hy, bitLen_of (j := b + p) (by rw [Nat.pow_add, Nat.mul_div_mul_right _ _ (Nat.pow_pos (by omega)), h1]) (by omega)]
        omega
      rw [← hn]
      exact hok k (by omega)
theorem cmp_l (x5 p : Int) (R : List Int) (hR : R.length ≤ 1000) (hr : ∀ x ∈ R, 0 ≤ x ∧ x ≤ 100) (d : Nat) : ∀ (k i c : Nat), R.length - i = d → i ≤ R.length → c ≤ i →
    herbariumlaw13_HllAdds.l2 (k + d + 1) x5 c R (R.length : Int) i p R = herbariumlaw13_HllAdds.l2 (k + 1) x5 ((c + noughts (R.drop i) : Nat) : Int) R (R.length : Int) (R.length : Nat) p R := by
  induction d with
  | zero =>
    intro k i c hd hi hc
    obtain rfl : i = R.length := by omega
    rw [List.drop_length]; simp [noughts]
  | succ d ih =>
    intro k i c hd hi hc
    rw [show k + (d + 1) + 1 = (k + d + 1) + 1 by omega]
    rw [herbariumlaw13_HllAdds.l2]
    have hm := hr _ (getD_mem (show i < R.length by omega))
    rw [if_pos (by omega), if_pos (by omega), if_pos (by omega), if_pos (by omega), rd_eq, if_pos (by unfold wrap64; omega), wrap_succ (by omega), wrap_succ (by omega), drop_cons (show i < R.length by omega)]
    by_cases hz : R.getD i 0 = 0
    · rw [if_pos hz, ih k (i + 1) (c + 1) (by omega) (by omega) (by omega), hz]
      congr 1
      simp [noughts]; omega
    · rw [if_neg hz, ih k (i + 1) c (by omega) (by omega) (by omega)]
      have hz' : ¬ (R[i]?.getD 0 = 0) := by simpa [List.getD_eq_getElem?_getD] using hz
      congr 1
      simp [noughts, List.countP_cons, hz']
theorem check_l (p : Nat) (h8 : p ≤ 8) (R X : List Int) (hR : R.length ≤ 1000) (hr : ∀ x ∈ R, 0 ≤ x ∧ x ≤ 65 - p) (d : Nat) : ∀ (k i : Nat), R.length - i = d → i ≤ R.length → d < k → hll_Hll_Check.l0 k R (R.length : Int) i p X = some 0 := by
  induction d with
  | zero =>
    intro k i hd hi hk
    obtain ⟨k, rfl⟩ : ∃ m, k = m + 1 := ⟨k - 1, by omega⟩
    rw [hll_Hll_Check.l0, if_neg (by omega)]
  | succ d ih =>
    intro k i hd hi hk
    obtain ⟨k, rfl⟩ : ∃ m, k = m + 1 := ⟨k - 1, by omega⟩
    have hm := hr _ (getD_mem (show i < R.length by omega))
    rw [hll_Hll_Check.l0, if_pos (by omega), if_pos (by omega), if_pos (by omega), rd_eq]
    unfold hll_Hll_Top.f
    simp only [Option.bind_some]
    have e1 : wrap64 (R.getD i 0) = R.getD i 0 := by unfold wrap64; omega
    have e2 : wrap64 (65 - (p : Int)) = 65 - p := by unfold wrap64; omega
    rw [e1, e2, if_neg (by omega), wrap_succ (by omega)]
    exact ih k (i + 1) (by omega) (by omega) (by omega)
theorem shl_p (p : Nat) (h8 : p ≤ 8) : shl .i64 1 (p : Int) = ((2 ^ p : Nat) : Int) := by
  have : 2 ^ p ≤ 2 ^ 8 := Nat.pow_le_pow_right (by omega) h8
  unfold shl
  rw [show min (p : Int).toNat IntKind.i64.bits = p by simp [IntKind.bits]; omega, Int.one_mul, pow_cast]
  generalize 2 ^ p = q at this ⊢
  simp only [IntKind.wrap, IntKind.bits, IntKind.signed]
  simp
  omega
theorem check_f (p : Nat) (h4 : 4 ≤ p) (h8 : p ≤ 8) (R : List Int) (hR : Regs p R) (hr : ∀ x ∈ R, 0 ≤ x ∧ x ≤ 65 - p) (k : Nat) (hk : R.length + 1 < k) : hll_Hll_Check.f k p R = some 0 := by
  have hp2 : 2 ^ p ≤ 2 ^ 8 := Nat.pow_le_pow_right (by omega) h8
  have hRl : R.length ≤ 256 := by rw [hR]; exact hp2
  obtain ⟨k, rfl⟩ : ∃ m, k = m + 1 := ⟨k - 1, by omega⟩
  unfold hll_Hll_Check.f
  rw [if_neg (by omega), show decide ((p : Int) > 8) = false by simp; omega, hll_Hll_Check.j0, if_neg (by decide), if_pos (by omega), shl_p p h8, if_pos (by rw [hR])]
  have := check_l p h8 R R (by omega) hr R.length k 0 (by omega) (by omega) (by omega)
  simpa using this

theorem end_ok (p : Nat) (h4 : 4 ≤ p) (h8 : p ≤ 8) (R : List Int) (hR : Regs p R) (hr : ∀ x ∈ R, 0 ≤ x ∧ x ≤ 65 - p) (k : Nat) (hk : 900 ≤ k) : herbariumlaw13_HllAdds.l2 k p 0 R (R.length : Int) 0 p R = some true := by
  have hp2 : 2 ^ p ≤ 2 ^ 8 := Nat.pow_le_pow_right (by omega) h8
  have hRl : R.length ≤ 256 := by rw [hR]; exact hp2
  obtain ⟨q, rfl⟩ : ∃ q, k = (q + R.length) + 1 := ⟨k - R.length - 1, by omega⟩
  have h := cmp_l p p R (by omega) (fun x hx => by have := hr x hx; omega) R.length q 0 0 (by omega) (by omega) (by omega)
  simp only [Int.natCast_zero] at h
  rw [h, herbariumlaw13_HllAdds.l2, if_neg (by omega), check_f p h4 h8 R hR hr q (by omega)]
  simp only [Option.bind_some, if_true]
  rw [noughts_f _ _ (by omega) _ (by omega)]
  simp only [Option.bind_some, Nat.zero_add, List.drop_zero]
  rw [if_pos trivial]
  unfold hll_Hll_Top.f
  simp
theorem law_l (p : Nat) (h4 : 4 ≤ p) (h8 : p ≤ 8) (l : List Int) (hl : ∀ x ∈ l, IsHash x) (hn : l.length ≤ 60) (R : List Int) (hR : R = (l.map hsh).foldl (upd p) (List.replicate (2 ^ p) 0)) (d : Nat) : ∀ (k j : Nat), l.length - j = d → j ≤ l.length → 1000 + 100 * d ≤ k →
    herbariumlaw13_HllAdds.l0 k p (((l.take j).map hsh).foldl (upd p) (List.replicate (2 ^ p) 0)) l (l.length : Int) j p R = some true := by
  have hp2 : 2 ^ p ≤ 2 ^ 8 := Nat.pow_le_pow_right (by omega) h8
  have hR0 : Regs p (List.replicate (2 ^ p) (0 : Int)) := by simp [Regs]
  have hRR : Regs p R := by rw [hR]; exact foldl_regs _ _ hR0
  have hrr : ∀ x ∈ R, 0 ≤ x ∧ x ≤ 65 - p := by
    rw [hR]; exact fold_nonneg _ _ (fun x hx => by obtain ⟨_, rfl⟩ := List.mem_replicate.1 hx; omega) h8
  induction d with
  | zero =>
    intro k j hd hj hk
    obtain ⟨k, rfl⟩ : ∃ m, k = m + 1 := ⟨k - 1, by omega⟩
    obtain rfl : j = l.length := by omega
    rw [List.take_length, ← hR, herbariumlaw13_HllAdds.l0, if_neg (by omega)]
    exact end_ok p h4 h8 R hRR hrr k (by omega)
  | succ d ih =>
    intro k j hd hj hk
    obtain ⟨k, rfl⟩ : ∃ m, k = m + 1 := ⟨k - 1, by omega⟩
    have hlt : j < l.length := by omega
    have hx := hsh_f (hl _ (getD_mem hlt))
    obtain ⟨W, hW⟩ : ∃ W, W = ((l.take j).map hsh).foldl (upd p) (List.replicate (2 ^ p) 0) := ⟨_, rfl⟩
    have hWr : Regs p W := by rw [hW]; exact foldl_regs _ _ hR0
    have hnext : ((l.take (j + 1)).map hsh).foldl (upd p) (List.replicate (2 ^ p) 0) = upd p W (hsh (l.getD j 0)) := by
      rw [List.take_succ_eq_append_getElem hlt, List.map_append, List.foldl_append, ← hW]
      simp [List.getD_eq_getElem?_getD, List.getElem?_eq_getElem hlt]
    rw [← hW, herbariumlaw13_HllAdds.l0, if_pos (by omega), if_pos (by omega), if_pos (by omega), rd_eq, hx.1]
    simp only [Option.bind_some]
    obtain ⟨h, hh⟩ : ∃ h, h = hsh (l.getD j 0) := ⟨_, rfl⟩
    rw [← hh] at hx hnext ⊢
    have hH := hx.2
    have e64 : wrap64 (64 - (p : Int)) = ((64 - p : Nat) : Int) := by unfold wrap64; omega
    have e63 : wrap64 (63 - (p : Int)) = ((64 - p : Nat) : Int) - 1 := by unfold wrap64; omega
    rw [e64, e63, if_pos (by omega)]
    obtain ⟨m, hm⟩ := Int.eq_ofNat_of_zero_le hH.1
    have hi := iOf_lt h8 hH
    have hdiv : ((m / 2 ^ (64 - p) : Nat) : Int) = (iOf p h : Int) := by
      unfold iOf; rw [hm, pow_cast]
      have : (m : Int) / ((2 ^ (64 - p) : Nat) : Int) = ((m / 2 ^ (64 - p) : Nat) : Int) := by rw [Int.natCast_ediv]
      rw [this, Int.toNat_natCast]
    rw [hm, shr_n m (64 - p) (by omega), hdiv]
    have ei : wrap64 (iOf p h : Int) = iOf p h := by unfold wrap64; omega
    rw [ei]
    have hWl : W.length = 2 ^ p := hWr
    have hiW : (iOf p h : Int) < (W.length : Int) := by rw [hWl]; exact_mod_cast hi
    have hnb := nOf_bd h8 h
    have en : wrap64 (nOf p h) = nOf p h := by unfold wrap64; omega
    have hb := bits_l p W m (by have := hH.2; omega) p h4 h8 (iOf p h) l (l.length : Int) j p R (1000 + 100 * d) (fun k' hk' => by
      unfold exitV
      rw [← hm, place_f p h4 h8 R h hH]
      simp only [Option.bind_some, if_true]
      rw [en, if_pos rfl, if_pos (Int.natCast_nonneg _), if_pos hiW, Int.toNat_natCast, rd_eq, mx_eq, wrap_succ (by omega)]
      have := ih k' (j + 1) (by omega) (by omega) hk'
      rw [hnext] at this
      exact this) (64 - p) k (Nat.le_refl _) (by rw [Nat.div_eq_of_lt (Nat.mod_lt _ (Nat.pow_pos (by omega)))]) (by omega)
    rw [show 65 - p - (64 - p) = 1 by omega, show ((1 : Nat) : Int) = 1 from rfl] at hb
    exact hb

/-- The law. -/
theorem HllAdds : herbariumlaw13_HllAdds.Pure := by
  intro a0 l ha _ _ hl
  have ha' := Own.wf_u8 ha
  have hlh : ∀ x ∈ l, IsHash x := fun x hx => by have := Own.wf_u64 (hl x hx); exact ⟨this.1, by omega⟩
  obtain ⟨p, hp⟩ : ∃ p : Nat, 4 + a0 % 5 = p := ⟨(4 + a0 % 5).toNat, by omega⟩
  by_cases h60 : (l.length : Int) > 60
  · refine ⟨0, ?_⟩
    unfold herbariumlaw13_HllAdds.f herbariumlaw13_Awake.f
    simp only [Option.bind_some, if_true]
    rw [if_pos h60]
  have hn : l.length ≤ 60 := by omega
  obtain ⟨hf, h4, h8⟩ := hll_f a0 ha'.1 l hlh (by omega) 10000 (by omega) p hp
  have hp2 : 2 ^ p ≤ 2 ^ 8 := Nat.pow_le_pow_right (by omega) h8
  refine ⟨10000, ?_⟩
  unfold herbariumlaw13_HllAdds.f herbariumlaw13_Awake.f
  simp only [Option.bind_some, if_true]
  have e : wrap64 (4 + wrap64 (Int.tmod a0 5)) = (p : Int) := by
    rw [Int.tmod_eq_emod_of_nonneg ha'.1]
    unfold wrap64; omega
  rw [if_neg h60, hf, e]
  simp only [Option.bind_some]
  rw [shl_p p h8, if_pos (by omega), if_pos (Int.natCast_nonneg _), Int.toNat_natCast, if_pos (by omega)]
  have := law_l p h4 h8 l hlh hn _ rfl l.length 10000 0 (by omega) (by omega) (by omega)
  simpa using this
end Go.Proofs.Ytolhhbnamldghaa.Pure
