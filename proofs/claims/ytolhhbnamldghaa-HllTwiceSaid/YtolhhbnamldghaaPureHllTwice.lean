/- P13.1, without the document's answer: the same hash again turns nothing; registers only grow; in whatever order: at every input. -/
import Derived.Test.YtolhhbnamldghaaPHllTwicex4
import Derived.Test.YtolhhbnamldghaaHllM
import Derived.Test.YtolhhbnamldghaaBit
import Derived.Test.YtolhhbnamldghaaOwnB
namespace Go.Proofs.Ytolhhbnamldghaa.Pure
open Go.RowKit Go.Proofs.Ytolhhbnamldghaa.PHllTwice Go.Proofs.YtolhhbnamldghaaW.PrintWords Go.Proofs.YtolhhbnamldghaaW.PrintLast Go.Proofs.YtolhhbnamldghaaW.PrintMore Go.Proofs.Ytolhhbnamldghaa.HllM

theorem pow_cast (n : Nat) : ((2 : Int) ^ n) = ((2 ^ n : Nat) : Int) := by rw [Int.natCast_pow]; rfl
theorem place_f (p : Nat) (h4 : 4 ≤ p) (h8 : p ≤ 8) (R : List Int) (h : Int) (hh : IsHash h) : hll_Hll_Place.f p R h = some ((iOf p h : Int), nOf p h) := by
  have e : mn (mx (p : Int) 4) 8 = p := by unfold mn mx; split <;> split <;> omega
  unfold hll_Hll_Place.f bits_LeadingZeros64.f
  rw [e, Int.toNat_natCast, Bit.wrap64]
  have hm0 : 0 ≤ h * 2 ^ p % 18446744073709551616 := Int.emod_nonneg _ (by decide)
  have hm1 : h * 2 ^ p % 18446744073709551616 < 18446744073709551616 := Int.emod_lt_of_pos _ (by decide)
  rw [if_pos ⟨hm0, by omega⟩]
  simp only [Option.bind_some, Option.some.injEq, Prod.mk.injEq]
  have hi := iOf_lt h8 hh
  have hp : 2 ^ p ≤ 2 ^ 8 := Nat.pow_le_pow_right (by omega) h8
  have ei : (64 - (p : Int)).toNat = 64 - p := by omega
  constructor
  · unfold iOf at hi ⊢
    rw [ei]
    have h0 : 0 ≤ h / 2 ^ (64 - p) := Int.ediv_nonneg hh.1 (by rw [pow_cast]; exact Int.natCast_nonneg _)
    generalize h / 2 ^ (64 - p) = q at *
    unfold wrap64; omega
  · have hb := bitLen_le (h * 2 ^ p % 18446744073709551616).toNat
    unfold nOf
    generalize Lib.bitLen (h * 2 ^ p % 18446744073709551616).toNat = q at *
    have : mn (64 - (q : Int)) (64 - p) = min (64 - (q : Int)) (64 - p) := by unfold mn; split <;> omega
    rw [this]
    unfold wrap64; omega
theorem rd_eq (R : List Int) (i : Nat) : rd R i = R.getD i 0 := by unfold rd; rw [Int.toNat_natCast]
theorem mx_eq (a b : Int) : mx a b = max a b := by unfold mx; split <;> omega
theorem add_f (p : Nat) (h4 : 4 ≤ p) (h8 : p ≤ 8) (R : List Int) (hR : Regs p R) (h : Int) (hh : IsHash h) : hll_Hll_Add.f p R h = some ((p : Int), upd p R h) := by
  have hp : 2 ^ p ≤ 2 ^ 8 := Nat.pow_le_pow_right (by omega) h8
  have hl : R.length ≤ 256 := by rw [hR]; exact hp
  have hi : iOf p h < R.length := by rw [hR]; exact iOf_lt h8 hh
  unfold hll_Hll_Add.f
  simp only [Option.bind_some, List.nil_append, List.length_nil, Nat.zero_add, place_f p h4 h8 R h hh]
  rw [if_pos (by omega), if_pos (by omega), if_pos (by omega), Int.toNat_natCast, rd_eq, mx_eq]
  rfl
theorem hash_f (h : Int) (hh : IsHash h) : ∃ g, herbariumlaw13_Hash.f h = some g ∧ IsHash g := by
  unfold herbariumlaw13_Hash.f
  by_cases h3 : Int.tmod h 3 = 0
  · rw [if_pos h3]
    have h0 : 0 ≤ (IntKind.u64.wrap (Int.tdiv h 4)).tmod 56 := by
      apply Int.tmod_nonneg
      rw [Bit.wrap64]
      exact Int.emod_nonneg _ (by decide)
    rw [if_pos h0]
    refine ⟨_, rfl, ?_⟩
    rw [Bit.or64]
    have := BitVec.isLt (BitVec.ofInt 64 (IntKind.u64.wrap (h / 72057594037927936 * 72057594037927936)) ||| BitVec.ofInt 64 (Go.bits .and .u64 h (IntKind.u64.wrap (shl IntKind.u64 1 ((IntKind.u64.wrap (h.tdiv 4)).tmod 56) - 1))))
    exact ⟨by omega, by omega⟩
  · rw [if_neg h3]; exact ⟨h, rfl, hh⟩
def hsh (h : Int) : Int := (herbariumlaw13_Hash.f h).getD 0
theorem hsh_f {h : Int} (hh : IsHash h) : herbariumlaw13_Hash.f h = some (hsh h) ∧ IsHash (hsh h) := by
  obtain ⟨g, h1, h2⟩ := hash_f h hh
  unfold hsh
  rw [h1]; exact ⟨rfl, h2⟩
theorem wrap_succ {i : Nat} (h : i ≤ 1000000) : wrap64 ((i : Int) + 1) = ((i + 1 : Nat) : Int) := by unfold wrap64; omega
theorem getD_mem {l : List Int} {i : Nat} (h : i < l.length) : l.getD i 0 ∈ l := by
  rw [List.getD_eq_getElem?_getD, List.getElem?_eq_getElem h]; exact List.getElem_mem h
theorem drop_cons {l : List Int} {i : Nat} (h : i < l.length) : l.drop i = l.getD i 0 :: l.drop (i + 1) := by
  rw [List.drop_eq_getElem_cons h]; simp [List.getD_eq_getElem?_getD, List.getElem?_eq_getElem h]
theorem hll_l (p : Nat) (h4 : 4 ≤ p) (h8 : p ≤ 8) (l : List Int) (hl : ∀ x ∈ l, IsHash x) (hn : l.length ≤ 1000) (d : Nat) : ∀ (k i : Nat) (R : List Int), l.length - i = d → i ≤ l.length → d < k → Regs p R →
    herbariumlaw13_Hll.l0 k l (l.length : Int) i p R = some ((p : Int), ((l.drop i).map hsh).foldl (upd p) R) := by
  induction d with
  | zero =>
    intro k i R hd hi hk hR
    obtain ⟨k, rfl⟩ : ∃ m, k = m + 1 := ⟨k - 1, by omega⟩
    simp only [herbariumlaw13_Hll.l0]
    rw [if_neg (by omega), List.drop_of_length_le (by omega)]
    rfl
  | succ d ih =>
    intro k i R hd hi hk hR
    obtain ⟨k, rfl⟩ : ∃ m, k = m + 1 := ⟨k - 1, by omega⟩
    have hlt : i < l.length := by omega
    have hx := hsh_f (hl _ (getD_mem hlt))
    simp only [herbariumlaw13_Hll.l0]
    rw [if_pos (by omega), if_pos (by omega), if_pos (by omega), rd_eq, hx.1]
    simp only [Option.bind_some]
    rw [add_f p h4 h8 R hR _ hx.2]
    simp only [Option.bind_some]
    rw [wrap_succ (by omega), ih k (i + 1) _ (by omega) (by omega) (by omega) (hR.upd _), drop_cons hlt]
    rfl
theorem hll_f (a : Int) (ha : 0 ≤ a) (l : List Int) (hl : ∀ x ∈ l, IsHash x) (hn : l.length ≤ 1000) (k : Nat) (hk : l.length < k) (p : Nat) (hp : 4 + a % 5 = p) :
    herbariumlaw13_Hll.f k a l = some ((p : Int), (l.map hsh).foldl (upd p) (List.replicate (2 ^ p) 0)) ∧ 4 ≤ p ∧ p ≤ 8 := by
  have h4 : 4 ≤ p := by omega
  have h8 : p ≤ 8 := by omega
  refine ⟨?_, h4, h8⟩
  have e : wrap64 (4 + wrap64 (Int.tmod a 5)) = (p : Int) := by
    rw [Int.tmod_eq_emod_of_nonneg ha]
    unfold wrap64; omega
  have es : shl .i64 1 (p : Int) = ((2 ^ p : Nat) : Int) := by
    have : 2 ^ p ≤ 2 ^ 8 := Nat.pow_le_pow_right (by omega) h8
    unfold shl
    rw [show min (p : Int).toNat IntKind.i64.bits = p by simp [IntKind.bits]; omega, Int.one_mul, pow_cast]
    generalize 2 ^ p = q at this ⊢
    simp only [IntKind.wrap, IntKind.bits, IntKind.signed]
    simp
    omega
  have hp2 : 2 ^ p ≤ 2 ^ 8 := Nat.pow_le_pow_right (by omega) h8
  unfold herbariumlaw13_Hll.f
  rw [e]
  have en : hll_New.f (p : Int) = some ((p : Int), List.replicate (2 ^ p) 0, true) := by
    unfold hll_New.f
    rw [es, if_neg (by omega), if_neg (by omega), if_pos (by omega), if_pos (Int.natCast_nonneg _), Int.toNat_natCast, if_pos (by omega)]
  rw [en]
  simp only [Option.bind_some]
  have := hll_l p h4 h8 l hl hn l.length k 0 (List.replicate (2 ^ p) 0) (by omega) (by omega) hk (by simp [Regs])
  simpa using this

theorem noughts_l (p : Int) (R : List Int) (hn : R.length ≤ 1000) (d : Nat) : ∀ (k i c : Nat), R.length - i = d → i ≤ R.length → d < k → c ≤ 1000000 - d → hll_Hll_Noughts.l0 k c R (R.length : Int) i = some ((c + noughts (R.drop i) : Nat) : Int) := by
  induction d with
  | zero =>
    intro k i c hd hi hk hc
    obtain ⟨k, rfl⟩ : ∃ m, k = m + 1 := ⟨k - 1, by omega⟩
    simp only [hll_Hll_Noughts.l0]
    rw [if_neg (by omega), List.drop_of_length_le (by omega)]
    simp [noughts]
  | succ d ih =>
    intro k i c hd hi hk hc
    obtain ⟨k, rfl⟩ : ∃ m, k = m + 1 := ⟨k - 1, by omega⟩
    have hlt : i < R.length := by omega
    simp only [hll_Hll_Noughts.l0]
    rw [if_pos (by omega), if_pos (by omega), if_pos (by omega), rd_eq, drop_cons hlt]
    by_cases hz : R.getD i 0 = 0
    · rw [if_pos hz, wrap_succ (by omega), wrap_succ (by omega), ih k (i + 1) (c + 1) (by omega) (by omega) (by omega) (by omega), hz]
      simp [noughts]; omega
    · rw [if_neg hz, wrap_succ (by omega), ih k (i + 1) c (by omega) (by omega) (by omega) (by omega)]
      have hz' : ¬ (R[i]?.getD 0 = 0) := by simpa [List.getD_eq_getElem?_getD] using hz
      simp [noughts, List.countP_cons, hz']
theorem noughts_f (p : Int) (R : List Int) (hn : R.length ≤ 1000) (k : Nat) (hk : R.length < k) : hll_Hll_Noughts.f k p R = some ((noughts R : Nat) : Int) := by
  unfold hll_Hll_Noughts.f
  have := noughts_l p R hn R.length k 0 0 (by omega) (by omega) hk (by omega)
  simpa using this
theorem same_f (p : Int) (R : List Int) : hll_Same.f p R p R = some true := by
  unfold hll_Same.f
  rw [if_pos rfl, beq_self_eq_true]
theorem upd_twice {p : Nat} (h8 : p ≤ 8) {R : List Int} (hR : Regs p R) {x : Int} (hx : IsHash x) : upd p (upd p R x) x = upd p R x := by
  simp only [upd_eq]
  exact updE_twice _ _ _ (by rw [hR]; exact iOf_lt h8 hx)

theorem back_l (a0 a2 : Int) (l : List Int) (hn : l.length ≤ 50) (p0 : Int) (R : List Int) (d : Nat) : ∀ (k : Nat) (X : List Int), d ≤ l.length → X = (l.drop d).reverse →
    herbariumlaw13_HllTwice.l0 (k + d + 1) a0 l a2 X ((d : Int) - 1) p0 R = ((hll_Hll_Add.f p0 R a2).bind fun bt => herbariumlaw13_HllTwice.l1 k a0 a2 l.reverse (R.length : Int) 0 p0 R bt.1 bt.2) := by
  induction d with
  | zero =>
    intro k X hd hX
    simp only [herbariumlaw13_HllTwice.l0]
    rw [if_neg (by omega), hX]
    simp
  | succ d ih =>
    intro k X hd hX
    rw [show k + (d + 1) + 1 = (k + d + 1) + 1 by omega]
    rw [herbariumlaw13_HllTwice.l0]
    rw [show ((d + 1 : Nat) : Int) - 1 = (d : Int) by omega]
    have hXl : X.length ≤ 50 := by rw [hX]; simp; omega
    rw [if_pos (by omega), if_pos (by omega), if_pos (by omega), if_pos (by omega), rd_eq]
    have ew : wrap64 ((d : Int) - 1) = (d : Int) - 1 := by unfold wrap64; omega
    rw [ew, ih k _ (by omega)]
    rw [hX, drop_cons (show d < l.length by omega)]
    simp
theorem cmp_l (a0 a2 : Int) (B : List Int) (p : Int) (R Q : List Int) (hl : R.length = Q.length) (hR : R.length ≤ 1000) (hge : ∀ j, R.getD j 0 ≤ Q.getD j 0) (d : Nat) : ∀ (k i : Nat), R.length - i = d → i ≤ R.length →
    herbariumlaw13_HllTwice.l1 (k + d + 1) a0 a2 B (R.length : Int) i p R p Q = herbariumlaw13_HllTwice.l1 (k + 1) a0 a2 B (R.length : Int) (R.length : Nat) p R p Q := by
  induction d with
  | zero =>
    intro k i hd hi
    obtain rfl : i = R.length := by omega
    rfl
  | succ d ih =>
    intro k i hd hi
    rw [show k + (d + 1) + 1 = (k + d + 1) + 1 by omega]
    rw [herbariumlaw13_HllTwice.l1]
    rw [if_pos (by omega), if_pos (by omega), if_pos (by omega), if_pos (by omega), rd_eq, rd_eq, if_neg (by have := hge i; omega), wrap_succ (by omega), ih k (i + 1) (by omega) (by omega)]
theorem fold_nonneg {p : Nat} : ∀ (l : List Int) (R : List Int), (∀ x ∈ R, 0 ≤ x) → ∀ x ∈ l.foldl (upd p) R, 0 ≤ x
  | [], _, h => h
  | y :: l, R, h => fold_nonneg l _ (fun x hx => by
    unfold upd at hx
    rcases List.mem_or_eq_of_mem_set hx with h1 | rfl
    · exact h x h1
    · have : 0 ≤ R.getD (iOf p y) 0 := by
        by_cases hi : iOf p y < R.length
        · exact h _ (getD_mem hi)
        · simp [List.getD_eq_getElem?_getD, List.getElem?_eq_none (by omega : R.length ≤ iOf p y)]
      omega)

/-- The law. -/
theorem HllTwice : herbariumlaw13_HllTwice.Pure := by
  intro a0 l a2 ha _ _ hl h2
  have ha' := Own.wf_u8 ha
  have h2' := Own.wf_u64 h2
  have hh2 : IsHash a2 := ⟨h2'.1, by omega⟩
  have hlh : ∀ x ∈ l, IsHash x := fun x hx => by have := Own.wf_u64 (hl x hx); exact ⟨this.1, by omega⟩
  obtain ⟨p, hp⟩ : ∃ p : Nat, 4 + a0 % 5 = p := ⟨(4 + a0 % 5).toNat, by omega⟩
  by_cases h50 : (l.length : Int) > 50
  · refine ⟨0, ?_⟩
    unfold herbariumlaw13_HllTwice.f herbariumlaw13_Awake.f
    simp only [Option.bind_some, if_true]
    rw [if_pos h50]
  have hn : l.length ≤ 50 := by omega
  obtain ⟨R, hRd⟩ : ∃ R, R = (l.map hsh).foldl (upd p) (List.replicate (2 ^ p) 0) := ⟨_, rfl⟩
  obtain ⟨_, h4, h8⟩ := hll_f a0 ha'.1 l hlh (by omega) (l.length + 1) (by omega) p hp
  have hR0 : Regs p (List.replicate (2 ^ p) (0 : Int)) := by simp [Regs]
  have hR : Regs p R := by rw [hRd]; exact foldl_regs _ _ hR0
  have hp2 : 2 ^ p ≤ 2 ^ 8 := Nat.pow_le_pow_right (by omega) h8
  have hRl : R.length ≤ 256 := by rw [hR]; exact hp2
  have hRp : R.length = 2 ^ p := hR
  have hr0 : ∀ x ∈ R, 0 ≤ x := by
    rw [hRd]; exact fold_nonneg _ _ (fun x hx => by obtain ⟨_, rfl⟩ := List.mem_replicate.1 hx; omega)
  have hQ := hR.upd a2
  refine ⟨((1000 + 1) + R.length + 1) + l.length + 1, ?_⟩
  unfold herbariumlaw13_HllTwice.f herbariumlaw13_Awake.f
  simp only [Option.bind_some, if_true]
  rw [if_neg h50, (hll_f a0 ha'.1 l hlh (by omega) _ (by omega) p hp).1, ← hRd]
  simp only [Option.bind_some]
  have ew : wrap64 ((l.length : Int) - 1) = (l.length : Int) - 1 := by unfold wrap64; omega
  rw [ew, back_l a0 a2 l hn p R l.length _ [] (Nat.le_refl _) (by simp), add_f p h4 h8 R hR a2 hh2]
  simp only [Option.bind_some]
  have hc := cmp_l a0 a2 l.reverse p R (upd p R a2) (by rw [hR, hQ]) (by omega) (upd_ge h8 hR hh2) R.length (1000 + 1) 0 (by omega) (by omega)
  rw [show ((0 : Nat) : Int) = 0 from rfl] at hc
  rw [hc]
  rw [herbariumlaw13_HllTwice.l1]
  rw [if_neg (by omega), add_f p h4 h8 _ hQ a2 hh2]
  simp only [Option.bind_some]
  rw [upd_twice h8 hR hh2, same_f]
  simp only [Option.bind_some, if_true]
  rw [(hll_f a0 ha'.1 l.reverse (fun x hx => hlh x (List.mem_reverse.1 hx)) (by simp; omega) _ (by simp; omega) p hp).1]
  simp only [Option.bind_some]
  have hm : ∀ y ∈ l.map hsh, IsHash y := fun y hy => by
    obtain ⟨x, hx, rfl⟩ := List.mem_map.1 hy
    exact (hsh_f (hlh x hx)).2
  rw [List.map_reverse, foldl_reverse h8 _ _ hR0 hm, ← hRd, same_f]
  simp only [Option.bind_some, if_true]
  have hQl : (upd p R a2).length ≤ 256 := by rw [hQ]; exact hp2
  rw [noughts_f _ _ (by omega) _ (by omega), noughts_f _ _ (by omega) _ (by omega)]
  simp only [Option.bind_some]
  have := countP_le_of R (upd p R a2) (by rw [hR, hQ]) (upd_ge h8 hR hh2) hr0
  simp only [Option.some.injEq, decide_eq_true_eq]
  omega
end Go.Proofs.Ytolhhbnamldghaa.Pure
