/- The document's sum, plain: bits in a row, the polynomial taken away from the front; it is the register's. It speaks of no program. -/
import Derived.Test.YtfpeeilenocaoaaCrcPure
namespace Go.Proofs.Ytfpeeilenocaoaa.Crc
open Go.Proofs.Ytfpeeilenocaoaa.Own

def bits8 (c : Int) (k : Nat) : List Int := (List.range k).map fun j => c / 2 ^ j % 2
def bitsOf (xs : List Int) : List Int := xs.flatMap fun c => bits8 c 8
def flip (l : List Int) (j : Nat) : List Int := l.set j (1 - l.getD j 0)
def turnN : Nat → List Int → List Int
  | 0, l => l
  | i + 1, l => flip (turnN i l) i
def terms : List Nat := [0, 4, 5, 6, 7, 9, 10, 12, 13, 14, 18, 19, 21, 22, 23, 24, 26, 32]
def flips (i : Nat) (ts : List Nat) (l : List Int) : List Int := ts.foldl (fun l t => flip l (i + t)) l
def divN : Nat → List Int → List Int
  | 0, l => l
  | i + 1, l => if (divN i l).getD i 0 = 1 then flips i terms (divN i l) else divN i l
def collectN (l : List Int) : Nat → Nat
  | 0 => 0
  | k + 1 => collectN l k * 2 + (1 - l.getD (l.length - 1 - k) 0).toNat
def refSum (xs : List Int) : Nat := collectN (divN (8 * xs.length) (turnN 32 (bitsOf xs ++ List.replicate 32 0))) 32

theorem flip_len (l : List Int) (j : Nat) : (flip l j).length = l.length := by simp [flip]
theorem turnN_len : ∀ (i : Nat) (l : List Int), (turnN i l).length = l.length
  | 0, _ => rfl
  | i + 1, l => by rw [turnN, flip_len, turnN_len i l]
theorem flips_len (i : Nat) : ∀ (ts : List Nat) (l : List Int), (flips i ts l).length = l.length
  | [], _ => rfl
  | t :: ts, l => by rw [flips, List.foldl_cons]; exact (flips_len i ts _).trans (flip_len _ _)
theorem divN_len : ∀ (i : Nat) (l : List Int), (divN i l).length = l.length
  | 0, _ => rfl
  | i + 1, l => by
    rw [divN]
    split
    · rw [flips_len, divN_len i l]
    · exact divN_len i l
theorem bitsOf_len : ∀ xs : List Int, (bitsOf xs).length = 8 * xs.length
  | [] => rfl
  | c :: xs => by
    show (bits8 c 8 ++ bitsOf xs).length = _
    rw [List.length_append, bitsOf_len xs, List.length_cons]
    simp [bits8]; omega
theorem flip_getD (l : List Int) (j k : Nat) (hj : j < l.length) : (flip l j).getD k 0 = if k = j then 1 - l.getD j 0 else l.getD k 0 := by
  unfold flip
  by_cases h : k = j
  · subst h; simp [List.getD_eq_getElem?_getD, hj]
  · rw [if_neg h]
    simp [List.getD_eq_getElem?_getD, List.getElem?_set_ne (Ne.symm h)]
theorem turnN_getD : ∀ (i : Nat) (l : List Int) (k : Nat), i ≤ l.length → (turnN i l).getD k 0 = if k < i then 1 - l.getD k 0 else l.getD k 0
  | 0, l, k, _ => by simp [turnN]
  | i + 1, l, k, h => by
    rw [turnN, flip_getD _ _ _ (by rw [turnN_len]; omega), turnN_getD i l k (by omega), turnN_getD i l i (by omega)]
    by_cases h1 : k = i
    · subst h1; simp
    · rw [if_neg h1]
      by_cases h2 : k < i
      · rw [if_pos h2, if_pos (by omega)]
      · rw [if_neg h2, if_neg (by omega)]
theorem flips_getD (i : Nat) : ∀ (ts : List Nat) (l : List Int) (k : Nat), ts.Nodup → (∀ t ∈ ts, i + t < l.length) → (flips i ts l).getD k 0 = if i ≤ k ∧ k - i ∈ ts then 1 - l.getD k 0 else l.getD k 0
  | [], l, k, _, _ => by simp [flips]
  | t :: ts, l, k, hn, ht => by
    have hn' := List.nodup_cons.1 hn
    show (flips i ts (flip l (i + t))).getD k 0 = _
    rw [flips_getD i ts (flip l (i + t)) k hn'.2 (fun t' h => by rw [flip_len]; exact ht t' (by simp [h])), flip_getD _ _ _ (ht t (by simp))]
    by_cases hk : k = i + t
    · subst hk
      have e : i + t - i = t := by omega
      rw [e, if_neg (fun h => hn'.1 h.2), if_pos rfl, if_pos ⟨by omega, by simp⟩]
    · rw [if_neg hk]
      by_cases h1 : i ≤ k ∧ k - i ∈ ts
      · rw [if_pos h1, if_pos ⟨h1.1, by simp [h1.2]⟩]
      · rw [if_neg h1, if_neg]
        rintro ⟨h2, h3⟩
        rcases List.mem_cons.1 h3 with h3 | h3
        · omega
        · exact h1 ⟨h2, h3⟩

def b2i (b : Bool) : Int := if b then 1 else 0
/-- The register after so many bits. -/
def reg (orig : Nat → Bool) : Nat → BitVec 32
  | 0 => 0xffffffff#32
  | i + 1 => st (reg orig i ^^^ (if orig i then 1#32 else 0#32))

theorem terms_poly (m : Nat) (h : m < 32) : poly.getLsbD m = decide (m + 1 ∈ terms) := by
  have key : ∀ m : Fin 32, poly.getLsbD m.val = decide (m.val + 1 ∈ terms) := by decide
  exact key ⟨m, h⟩
theorem terms_le : ∀ t ∈ terms, t ≤ 32 := by decide

theorem one_bit (b : Bool) (j : Nat) : (if b then 1#32 else 0#32).getLsbD j = (decide (j = 0) && b) := by
  cases b
  · simp
  · by_cases h : j = 0
    · subst h; rfl
    · simp only [if_true, h, decide_false, Bool.false_and]
      simp [BitVec.getLsbD_one, h]
theorem reg_bit (orig : Nat → Bool) (i j : Nat) (hj : j < 32) :
    (reg orig (i + 1)).getLsbD j = ((reg orig i).getLsbD (j + 1) ^^ (((reg orig i).getLsbD 0 ^^ orig i) && decide (j + 1 ∈ terms))) := by
  rw [reg]
  unfold st
  rw [BitVec.getLsbD_xor, BitVec.getLsbD_ushiftRight, BitVec.getLsbD_xor, BitVec.getLsbD_xor, one_bit, one_bit, Nat.add_comm 1 j]
  simp only [show ¬ (j + 1 = 0) by omega, decide_false, Bool.false_and, Bool.xor_false, decide_true, Bool.true_and]
  congr 1
  cases (reg orig i).getLsbD 0 ^^ orig i
  · simp
  · simp only [if_true, Bool.true_and]
    exact terms_poly j hj

/-- How the row of bits stands after so many are done. -/
theorem div_bits (l0 : List Int) (orig : Nat → Bool) (h0 : ∀ j, j < l0.length → l0.getD j 0 = b2i (orig j ^^ decide (j < 32))) : ∀ (i : Nat), i + 32 ≤ l0.length → ∀ j, i ≤ j → j < l0.length →
    (divN i l0).getD j 0 = b2i (orig j ^^ (reg orig i).getLsbD (j - i))
  | 0, _, j, _, hj => by
    rw [divN, h0 j hj, reg]
    congr 2
    rw [show (0xffffffff#32) = BitVec.allOnes 32 by decide, BitVec.getLsbD_allOnes]
    simp
  | i + 1, hi, j, hij, hj => by
    have ih := div_bits l0 orig h0 i (by omega)
    have hl := divN_len i l0
    have hat := ih i (by omega) (by omega)
    rw [Nat.sub_self] at hat
    have hjj := ih j (by omega) hj
    have e1 : j - i = (j - (i + 1)) + 1 := by omega
    rw [divN]
    have hb : (divN i l0).getD i 0 = 1 ↔ ((reg orig i).getLsbD 0 ^^ orig i) = true := by
      rw [hat]
      cases (reg orig i).getLsbD 0 <;> cases orig i <;> simp [b2i]
    by_cases h32 : j - (i + 1) < 32
    · rw [reg_bit orig i (j - (i + 1)) h32]
      by_cases h1 : (divN i l0).getD i 0 = 1
      · rw [if_pos h1, flips_getD i terms _ j (by decide) (fun t ht => by have := terms_le t ht; omega), hjj, e1, hb.1 h1]
        by_cases h2 : j - (i + 1) + 1 ∈ terms
        · rw [if_pos ⟨by omega, h2⟩, decide_eq_true h2]
          cases orig j <;> cases (reg orig i).getLsbD (j - (i + 1) + 1) <;> rfl
        · rw [if_neg (fun h => h2 h.2), decide_eq_false h2]
          simp
      · rw [if_neg h1, hjj, e1]
        have h2 : ((reg orig i).getLsbD 0 ^^ orig i) = false := by
          cases h3 : ((reg orig i).getLsbD 0 ^^ orig i) with
          | false => rfl
          | true => exact absurd (hb.2 h3) h1
        rw [h2]
        simp
    · rw [BitVec.getLsbD_of_ge _ (j - (i + 1)) (by omega)]
      have h3 : (divN i l0).getD j 0 = b2i (orig j ^^ false) := by
        rw [hjj, BitVec.getLsbD_of_ge _ (j - i) (by omega)]
      split
      · rw [flips_getD i terms _ j (by decide) (fun t ht => by have := terms_le t ht; omega), if_neg, h3]
        rintro ⟨_, h4⟩
        have := terms_le _ h4
        omega
      · exact h3

theorem collect_eq (l : List Int) (r : BitVec 32) (hl : 32 ≤ l.length) (h : ∀ j, j < 32 → l.getD (l.length - 32 + j) 0 = b2i (r.getLsbD j)) : collectN l 32 = (~~~ r).toNat := by
  have key : ∀ k, k ≤ 32 → collectN l k = (~~~ r).toNat / 2 ^ (32 - k) := by
    intro k
    induction k with
    | zero =>
      intro _
      rw [collectN, Nat.div_eq_of_lt]
      exact (~~~ r).isLt
    | succ k ih =>
      intro hk
      rw [collectN, ih (by omega)]
      have h1 := h (31 - k) (by omega)
      rw [show l.length - 32 + (31 - k) = l.length - 1 - k by omega] at h1
      rw [h1]
      have e : 32 - k = (32 - (k + 1)) + 1 := by omega
      have h2 : (1 - b2i (r.getLsbD (31 - k))).toNat = (~~~ r).toNat / 2 ^ (32 - (k + 1)) % 2 := by
        have h3 : (~~~ r).getLsbD (31 - k) = !r.getLsbD (31 - k) := by rw [BitVec.getLsbD_not]; simp; omega
        have h4 : (~~~ r).getLsbD (31 - k) = ((~~~ r).toNat).testBit (31 - k) := rfl
        rw [Nat.testBit_eq_decide_div_mod_eq] at h4
        rw [show 32 - (k + 1) = 31 - k by omega]
        cases hb : r.getLsbD (31 - k) with
        | true =>
          rw [hb] at h3
          rw [h3] at h4
          have h5 := of_decide_eq_false h4.symm
          simp only [b2i, if_true]
          omega
        | false =>
          rw [hb] at h3
          rw [h3] at h4
          have h5 := of_decide_eq_true h4.symm
          simp only [b2i, Bool.false_eq_true, if_false]
          omega
      rw [h2, e, Nat.pow_succ, ← Nat.div_div_eq_div_mul]
      omega
  have := key 32 (Nat.le_refl _)
  simpa using this

theorem noughts (n k : Nat) : (List.replicate n (0 : Int))[k]?.getD 0 = 0 := by
  rw [List.getElem?_replicate]
  split <;> rfl
/-- A byte, bit by bit. -/
theorem bits_byte (n : BitVec 32) {c : Int} (hc : 0 ≤ c ∧ c ≤ 255) (orig : Nat → Bool) (i : Nat) (ho : ∀ k, k < 8 → orig (i + k) = decide (c / 2 ^ k % 2 = 1)) (hr : reg orig i = n) : reg orig (i + 8) = by1 n c := by
  have key : ∀ k, k ≤ 8 → reg orig (i + k) = sts k (n ^^^ BitVec.ofInt 32 (c % 2 ^ k)) := by
    intro k
    induction k with
    | zero =>
      intro _
      rw [Nat.add_zero, hr, Int.pow_zero, Int.emod_one]
      show n = n ^^^ BitVec.ofInt 32 0
      rw [show BitVec.ofInt 32 0 = 0#32 by decide, BitVec.xor_zero]
    | succ k ih =>
      intro hk
      rw [← Nat.add_assoc, reg, ih (by omega), ho k (by omega), sts_succ]
      congr 1
      have e1 : BitVec.ofInt 32 (c % 2 ^ (k + 1)) = BitVec.ofInt 32 (c % 2 ^ k) ^^^ ((if c / 2 ^ k % 2 = 1 then 1#32 else 0#32) <<< k) := by
        obtain ⟨m, rfl⟩ := Int.eq_ofNat_of_zero_le hc.1
        have hm : m < 256 := by omega
        have hk8 : k < 8 := by omega
        have key : ∀ (m : Fin 256) (k : Fin 8), BitVec.ofNat 32 (m.val % 2 ^ (k.val + 1)) = BitVec.ofNat 32 (m.val % 2 ^ k.val) ^^^ ((if m.val / 2 ^ k.val % 2 = 1 then 1#32 else 0#32) <<< k.val) := by decide +kernel
        have := key ⟨m, hm⟩ ⟨k, hk8⟩
        simp only at this
        have p1 : ∀ j : Nat, ((m : Int) % 2 ^ j) = ((m % 2 ^ j : Nat) : Int) := fun j => by push_cast; rfl
        have p2 : ((m : Int) / 2 ^ k % 2 = 1) ↔ m / 2 ^ k % 2 = 1 := by
          have : ((m : Int) / 2 ^ k % 2) = ((m / 2 ^ k % 2 : Nat) : Int) := by push_cast; rfl
          rw [this]; omega
        rw [p1, p1]
        simp only [p2, BitVec.ofInt_natCast]
        exact this
      rw [e1, ← BitVec.xor_assoc, sts_xor k (n ^^^ BitVec.ofInt 32 (c % 2 ^ k)), sts_shift k ((if c / 2 ^ k % 2 = 1 then 1#32 else 0#32) <<< k) (fun j hj => by simp [hj])]
      congr 1
      have hk8 : k < 8 := by omega
      have key : ∀ k : Fin 8, (1#32 <<< k.val) >>> k.val = 1#32 := by decide
      have := key ⟨k, hk8⟩
      by_cases h : c / 2 ^ k % 2 = 1
      · simp only [h, decide_true, if_true]; exact this.symm
      · simp only [h, decide_false, Bool.false_eq_true, if_false]; simp
  have h8 := key 8 (Nat.le_refl _)
  rw [h8]
  unfold by1
  congr 2
  rw [Int.emod_eq_of_lt hc.1 (by omega)]

theorem bitsOf_getD : ∀ (xs : List Int) (i k : Nat), i < xs.length → k < 8 → (bitsOf xs).getD (8 * i + k) 0 = xs.getD i 0 / 2 ^ k % 2
  | [], i, k, h, _ => by simp at h
  | c :: xs, 0, k, _, hk => by
    show (bits8 c 8 ++ bitsOf xs).getD (8 * 0 + k) 0 = _
    have hl : (bits8 c 8).length = 8 := by simp [bits8]
    rw [List.getD_eq_getElem?_getD, List.getElem?_append_left (by omega)]
    simp [bits8, hk]
  | c :: xs, i + 1, k, h, hk => by
    show (bits8 c 8 ++ bitsOf xs).getD (8 * (i + 1) + k) 0 = _
    have hl : (bits8 c 8).length = 8 := by simp [bits8]
    rw [List.getD_eq_getElem?_getD, List.getElem?_append_right (by omega), hl, show 8 * (i + 1) + k - 8 = 8 * i + k by omega, ← List.getD_eq_getElem?_getD, bitsOf_getD xs i k (by simpa using h) hk]
    simp

/-- **The document's sum is the register's.** -/
theorem refSum_eq (xs : List Int) (hx : IsBytes xs) : refSum xs = (sum xs).toNat := by
  let orig : Nat → Bool := fun j => decide ((bitsOf xs ++ List.replicate 32 0).getD j 0 = 1)
  have hlen : (bitsOf xs ++ List.replicate 32 (0 : Int)).length = 8 * xs.length + 32 := by rw [List.length_append, bitsOf_len]; simp
  have hval : ∀ j, j < 8 * xs.length + 32 → (bitsOf xs ++ List.replicate 32 0).getD j 0 = b2i (orig j) := by
    intro j hj
    have h01 : (bitsOf xs ++ List.replicate 32 0).getD j 0 = 0 ∨ (bitsOf xs ++ List.replicate 32 0).getD j 0 = 1 := by
      by_cases h : j < 8 * xs.length
      · have h2 : (bitsOf xs ++ List.replicate 32 (0 : Int)).getD j 0 = (bitsOf xs).getD j 0 := by
          rw [List.getD_eq_getElem?_getD, List.getElem?_append_left (by rw [bitsOf_len]; exact h), ← List.getD_eq_getElem?_getD]
        rw [h2]
        have := bitsOf_getD xs (j / 8) (j % 8) (by omega) (by omega)
        rw [show 8 * (j / 8) + j % 8 = j by omega] at this
        rw [this]
        omega
      · left
        rw [List.getD_eq_getElem?_getD, List.getElem?_append_right (by rw [bitsOf_len]; omega), bitsOf_len, noughts]
    show _ = b2i (decide _)
    rcases h01 with h | h <;> rw [h] <;> rfl
  have h0 : ∀ j, j < (turnN 32 (bitsOf xs ++ List.replicate 32 0)).length → (turnN 32 (bitsOf xs ++ List.replicate 32 0)).getD j 0 = b2i (orig j ^^ decide (j < 32)) := by
    intro j hj
    rw [turnN_len, hlen] at hj
    rw [turnN_getD 32 _ j (by omega), hval j hj]
    by_cases h : j < 32
    · rw [if_pos h, decide_eq_true h]
      cases orig j <;> rfl
    · rw [if_neg h, decide_eq_false h]
      simp
  have hbyte : ∀ i, i ≤ xs.length → reg orig (8 * i) = crcs 0xffffffff#32 (xs.take i) := by
    intro i
    induction i with
    | zero => intro _; rfl
    | succ i ih =>
      intro hi
      have hi' : i < xs.length := by omega
      have htk : xs.take (i + 1) = xs.take i ++ [xs.getD i 0] := by
        rw [List.take_add_one]; simp [List.getD_eq_getElem?_getD, List.getElem?_eq_getElem hi']
      rw [htk, crcs_app, ← ih (by omega)]
      refine bits_byte _ (hx _ (by simp [List.getD_eq_getElem?_getD, List.getElem?_eq_getElem hi'])) orig (8 * i) (fun k hk => ?_) rfl
      show decide (_ = 1) = _
      have h2 : (bitsOf xs ++ List.replicate 32 (0 : Int)).getD (8 * i + k) 0 = (bitsOf xs).getD (8 * i + k) 0 := by
        rw [List.getD_eq_getElem?_getD, List.getElem?_append_left (by rw [bitsOf_len]; omega), ← List.getD_eq_getElem?_getD]
      rw [h2, bitsOf_getD xs i k hi' hk]
  have hreg := hbyte xs.length (Nat.le_refl _)
  rw [List.take_length] at hreg
  unfold refSum
  have hL : (divN (8 * xs.length) (turnN 32 (bitsOf xs ++ List.replicate 32 0))).length = 8 * xs.length + 32 := by rw [divN_len, turnN_len, hlen]
  rw [collect_eq _ (reg orig (8 * xs.length)) (by omega) (fun j hj => ?_), hreg]
  · rfl
  · rw [hL, show 8 * xs.length + 32 - 32 + j = 8 * xs.length + j by omega, div_bits _ orig h0 (8 * xs.length) (by rw [turnN_len, hlen]; exact Nat.le_refl _) _ (by omega) (by rw [turnN_len, hlen]; omega), show 8 * xs.length + j - 8 * xs.length = j by omega]
    have h3 : orig (8 * xs.length + j) = false := by
      show decide _ = false
      rw [List.getD_eq_getElem?_getD, List.getElem?_append_right (by rw [bitsOf_len]; omega), bitsOf_len, noughts]
      decide
    rw [h3, Bool.false_xor]

/-! ### noughts and ones -/
def Bin (l : List Int) : Prop := ∀ x ∈ l, x = 0 ∨ x = 1
theorem Bin.at {l : List Int} (h : Bin l) (j : Nat) : l.getD j 0 = 0 ∨ l.getD j 0 = 1 := by
  rw [List.getD_eq_getElem?_getD]
  cases hj : l[j]? with
  | none => exact .inl rfl
  | some x => exact h x (List.mem_of_getElem? hj)
theorem Bin.flip {l : List Int} (h : Bin l) (j : Nat) : Bin (flip l j) := by
  intro x hx
  rcases List.mem_or_eq_of_mem_set hx with hx | rfl
  · exact h x hx
  · rcases h.at j with q | q <;> rw [q]
    · exact .inr rfl
    · exact .inl rfl
theorem Bin.turnN {l : List Int} (h : Bin l) : ∀ i, Bin (turnN i l)
  | 0 => h
  | i + 1 => (Bin.turnN h i).flip i
theorem Bin.flips (i : Nat) : ∀ (ts : List Nat) {l : List Int}, Bin l → Bin (flips i ts l)
  | [], _, h => h
  | t :: ts, _, h => Bin.flips i ts (h.flip (i + t))
theorem Bin.divN {l : List Int} (h : Bin l) : ∀ i, Bin (divN i l)
  | 0 => h
  | i + 1 => by
    rw [Crc.divN]
    split
    · exact Bin.flips i terms (Bin.divN h i)
    · exact Bin.divN h i
theorem bits_bin (xs : List Int) (n : Nat) : Bin (bitsOf xs ++ List.replicate n 0) := by
  intro x hx
  rcases List.mem_append.1 hx with hx | hx
  · obtain ⟨c, _, hx⟩ := List.mem_flatMap.1 hx
    simp only [bits8, List.mem_map] at hx
    obtain ⟨k, _, rfl⟩ := hx
    omega
  · rw [List.eq_of_mem_replicate hx]; exact .inl rfl
theorem flips_step (i k : Nat) (l : List Int) (hk : k < terms.length) : flips i (terms.take (k + 1)) l = flip (flips i (terms.take k) l) (i + terms.getD k 0) := by
  have e : terms.take (k + 1) = terms.take k ++ [terms.getD k 0] := by rw [List.take_add_one]; simp [List.getD_eq_getElem?_getD, List.getElem?_eq_getElem hk]
  rw [e]
  unfold flips
  rw [List.foldl_append]
  rfl
theorem collectN_lt {l : List Int} (h : Bin l) : ∀ k, collectN l k < 2 ^ k
  | 0 => by simp [collectN]
  | k + 1 => by
    have := collectN_lt h k
    rw [collectN, Nat.pow_succ]
    rcases h.at (l.length - 1 - k) with q | q <;> rw [q]
    · show collectN l k * 2 + 1 < _; omega
    · show collectN l k * 2 + 0 < _; omega
theorem collectN_u32 {l : List Int} (h : Bin l) {k : Nat} (hk : k ≤ 32) : collectN l k < 4294967296 :=
  Nat.lt_of_lt_of_le (collectN_lt h k) (Nat.pow_le_pow_right (by decide) hk)

end Go.Proofs.Ytfpeeilenocaoaa.Crc
