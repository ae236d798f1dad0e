/- The bytes of a row of bits, read bit by bit, are the row, and noughts behind it. -/
import Derived.Test.YtpgnlpcnancplaaBitsR
namespace Go.Proofs.Ytpgnlpcnancplaa.Bits
open Go.RowKit Go.Proofs.Ytpgnlpcnancplaa.Own

theorem getD_zero (B : List Int) (k : Nat) : (B ++ [0]).getD k 0 = B.getD k 0 := by
  rw [List.getD_eq_getElem?_getD, List.getD_eq_getElem?_getD, List.getElem?_append]
  by_cases h : k < B.length
  · rw [if_pos h]
  · rw [if_neg h, List.getElem?_eq_none (l := B) (by omega)]
    cases hk : k - B.length with
    | zero => rfl
    | succ j => rfl
theorem bitAt_grow (B : List Int) (m i : Nat) : bitAt (grow B m) i = bitAt B i := by
  unfold grow bitAt
  split
  · rw [getD_zero]
  · rfl
theorem mask_pow (j : Nat) (hj : j ≤ 7) : (128 : Int) / 2 ^ j = ((2 ^ (7 - j) : Nat) : Int) := by
  have : j = 0 ∨ j = 1 ∨ j = 2 ∨ j = 3 ∨ j = 4 ∨ j = 5 ∨ j = 6 ∨ j = 7 := by omega
  rcases this with rfl | rfl | rfl | rfl | rfl | rfl | rfl | rfl <;> rfl
theorem or_code (z : Int) (h0 : 0 ≤ z) (h1 : z ≤ 255) (j : Nat) (hj : j ≤ 7) : Go.bits .or .u8 z (128 / 2 ^ j) = ((z.toNat ||| 2 ^ (7 - j) : Nat) : Int) ∧ (z.toNat ||| 2 ^ (7 - j)) ≤ 255 := by
  obtain ⟨n, rfl⟩ := Int.eq_ofNat_of_zero_le h0
  have hp : 2 ^ (7 - j) < 256 := by
    have := Nat.pow_le_pow_right (n := 2) (by omega) (show 7 - j ≤ 7 by omega)
    omega
  have hor : (n ||| 2 ^ (7 - j)) < 2 ^ 8 := Nat.or_lt_two_pow (by omega) (by omega)
  refine ⟨?_, by rw [Int.toNat_natCast]; omega⟩
  rw [mask_pow j hj, Bit.or8, BitVec.ofInt_natCast, BitVec.ofInt_natCast, BitVec.toNat_or, BitVec.toNat_ofNat, BitVec.toNat_ofNat, Int.toNat_natCast, Nat.mod_eq_of_lt (show n < 2 ^ 8 by omega), Nat.mod_eq_of_lt (show 2 ^ (7 - j) < 2 ^ 8 by omega)]
def Bytes (B : List Int) : Prop := ∀ x ∈ B, 0 ≤ x ∧ x ≤ 255
theorem Bytes.getD {B : List Int} (h : Bytes B) (k : Nat) : 0 ≤ B.getD k 0 ∧ B.getD k 0 ≤ 255 := by
  by_cases hk : k < B.length
  · rw [List.getD_eq_getElem?_getD, List.getElem?_eq_getElem hk]; exact h _ (List.getElem_mem hk)
  · rw [List.getD_eq_getElem?_getD, List.getElem?_eq_none (by omega)]; decide
theorem bytes_grow {B : List Int} (h : Bytes B) (m : Nat) : Bytes (grow B m) := by
  unfold grow
  split
  · intro x hx
    rcases List.mem_append.1 hx with hx | hx
    · exact h x hx
    · rw [List.mem_singleton] at hx; subst hx; decide
  · exact h
theorem bytes_mark {B : List Int} (h : Bytes B) (m : Nat) : Bytes (mark B m) := by
  unfold mark
  have hz := h.getD (m / 8)
  obtain ⟨h1, h2⟩ := or_code _ hz.1 hz.2 (m % 8) (by omega)
  intro x hx
  rcases List.mem_or_eq_of_mem_set hx with hx | hx
  · exact h x hx
  · rw [hx, h1]; omega
theorem bitAt_mark {B : List Int} (h : Bytes B) (m i : Nat) (hm : m / 8 < B.length) : bitAt (mark B m) i = (decide (i = m) || bitAt B i) := by
  have hz := h.getD (m / 8)
  obtain ⟨h1, _⟩ := or_code _ hz.1 hz.2 (m % 8) (by omega)
  unfold mark bitAt
  rw [h1]
  by_cases hi : i / 8 = m / 8
  · rw [hi, List.getD_eq_getElem?_getD (l := B.set _ _), List.getElem?_set_self hm]
    simp only [Option.getD_some, Int.toNat_natCast, Nat.testBit_or, Nat.testBit_two_pow]
    rw [Bool.or_comm]
    congr 1
    apply decide_eq_decide.2
    omega
  · have hne : ¬ i = m := by intro e; subst e; exact hi rfl
    rw [List.getD_eq_getElem?_getD, List.getElem?_set_ne (by omega), ← List.getD_eq_getElem?_getD, decide_eq_false hne, Bool.false_or]
theorem getD_snoc (L : List Bool) (b : Bool) (i : Nat) : (L ++ [b]).getD i false = ((decide (i = L.length) && b) || L.getD i false) := by
  rw [List.getD_eq_getElem?_getD, List.getElem?_append, List.getD_eq_getElem?_getD]
  by_cases h : i < L.length
  · rw [if_pos h, decide_eq_false (by omega)]; simp
  · rw [if_neg h, List.getElem?_eq_none (l := L) (by omega)]
    by_cases e : i = L.length
    · subst e; simp
    · have : i - L.length ≠ 0 := by omega
      obtain ⟨j, hj⟩ := Nat.exists_eq_succ_of_ne_zero this
      rw [hj]; simp [e]
theorem pack_all (L : List Bool) : Bytes (pack L) ∧ ∀ i, bitAt (pack L) i = L.getD i false := by
  have key : ∀ (n : Nat) (L : List Bool), L.length = n → Bytes (pack L) ∧ ∀ i, bitAt (pack L) i = L.getD i false := by
    intro n
    induction n with
    | zero =>
      intro L hL
      obtain rfl : L = [] := List.eq_nil_of_length_eq_zero hL
      exact ⟨fun x hx => by simp [pack, packs] at hx, fun i => by simp [pack, packs, bitAt]⟩
    | succ n ih =>
      intro L hL
      have hne : L ≠ [] := by intro e; subst e; cases hL
      obtain ⟨M, b, rfl⟩ : ∃ M b, L = M ++ [b] := ⟨L.dropLast, L.getLast hne, (List.dropLast_concat_getLast hne).symm⟩
      have hM : M.length = n := by simpa using hL
      obtain ⟨h1, h2⟩ := ih M hM
      rw [pack_snoc]
      have hg := bytes_grow h1 M.length
      have hlt := grow_length (pack_length M)
      unfold put1
      cases b with
      | false =>
        simp only [Bool.false_eq_true, if_false]
        refine ⟨hg, fun i => ?_⟩
        rw [bitAt_grow, h2, getD_snoc]; simp
      | true =>
        simp only [if_true]
        refine ⟨bytes_mark hg _, fun i => ?_⟩
        rw [bitAt_mark hg _ _ hlt, bitAt_grow, h2, getD_snoc]; simp
  exact key L.length L rfl
end Go.Proofs.Ytpgnlpcnancplaa.Bits
