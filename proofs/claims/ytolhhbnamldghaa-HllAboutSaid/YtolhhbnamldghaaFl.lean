/- Words of floats that are no NaN and not below nought: sums, quotients, products of them are such again. It speaks of no program. -/
import Derived.Test.YtolhhbnamldghaaAwk13
namespace Go.Proofs.Ytolhhbnamldghaa.Fl
open Go

theorem e_sw : Ieee.double.signWeight = 9223372036854775808 := by decide
theorem e_b : Ieee.double.binade = 4503599627370496 := by decide
theorem e_i : Ieee.double.infRung = 9218868437227405312 := by decide
theorem e_l : Ieee.double.leastPlace = -1074 := by decide
theorem e_f : Ieee.double.fractionBits = 52 := rfl

theorem read_ok {s : Nat} (h : s ≤ 9218868437227405312) : (∃ m i, Ieee.double.read s = .number false m i ∧ -1074 ≤ i ∧ (0 < s → 0 < m)) ∨ (s = 9218868437227405312 ∧ Ieee.double.read s = .infinity false) := by
  unfold Ieee.Format.read
  simp only [e_sw, e_b, e_i, e_l]
  have h1 : s / 9223372036854775808 % 2 = 0 := by omega
  have h2 : s % 9223372036854775808 = s := by omega
  simp only [h1, h2]
  split
  · exact .inl ⟨s, -1074, rfl, by omega, id⟩
  · split
    · exact .inl ⟨_, _, rfl, by omega, fun _ => by omega⟩
    · rw [if_pos (by omega)]
      exact .inr ⟨by omega, rfl⟩
theorem nearest_le (f : Ieee.Format) (mag : Nat) (place : Int) : f.nearest false mag place ≤ f.infRung := by
  unfold Ieee.Format.nearest
  split
  · exact Nat.zero_le _
  · exact Nat.min_le_right _ _
theorem write_le (mag : Nat) (place : Int) : Ieee.double.write (.number false mag place) ≤ 9218868437227405312 := by
  have h := nearest_le Ieee.double mag place
  rw [e_i] at h
  exact h
theorem cut0 (n : Nat) : Ieee.Toward.even.cut false n 0 = n := by
  simp [Ieee.Toward.cut, Nat.mod_one]
theorem nearest_pos (f : Ieee.Format) {mag : Nat} {place : Int} (h : 0 < mag) (hp : f.leastPlace ≤ place) (hb : 0 < f.binade) (hi : 0 < f.infRung) : 0 < f.nearest false mag place := by
  unfold Ieee.Format.nearest
  rw [if_neg (Nat.pos_iff_ne_zero.1 h)]
  show 0 < min _ _
  refine Nat.lt_min.2 ⟨?_, hi⟩
  generalize f.binade = B at hb
  generalize f.leastPlace = P at hp
  generalize f.fractionBits = F
  by_cases hl : max (place + (mag.log2 : Int) - (F : Nat)) P = P
  · rw [hl]
    have h0 : (P - place).toNat = 0 := by omega
    rw [h0, cut0, Nat.shiftLeft_eq]
    have : 0 < mag * 2 ^ (place - P).toNat := Nat.mul_pos h (Nat.pow_pos (by omega))
    omega
  · have h1 : 1 ≤ (max (place + (mag.log2 : Int) - (F : Nat)) P - P).toNat := by omega
    have h2 := Nat.mul_le_mul_right B h1
    omega
theorem write_pos {mag : Nat} {place : Int} (h : 0 < mag) (hp : -1074 ≤ place) : 0 < Ieee.double.write (.number false mag place) :=
  nearest_pos Ieee.double h (by rw [e_l]; exact hp) (by rw [e_b]; decide) (by rw [e_i]; decide)
theorem write_inf : Ieee.double.write (.infinity false) = 9218868437227405312 := by decide
theorem shl_pos {m : Nat} (h : 0 < m) (k : Nat) : 0 < m <<< k := by rw [Nat.shiftLeft_eq]; exact Nat.mul_pos h (Nat.pow_pos (by omega))

theorem add_ok {s x : Nat} (hs : s ≤ 9218868437227405312) (hx : x ≤ 9218868437227405312) : ∃ r, Ieee.double.add s x = some r ∧ r ≤ 9218868437227405312 ∧ (0 < x → 0 < r) := by
  unfold Ieee.Format.add
  rcases read_ok hs with ⟨m, i, e1, hi, hm⟩ | ⟨_, e1⟩ <;> rcases read_ok hx with ⟨n, j, e2, hj, hn⟩ | ⟨_, e2⟩
  · rw [e1, e2]
    have key : Ieee.Datum.sum (.number false m i) (.number false n j) = some (.number false (m <<< (i - min i j).toNat + n <<< (j - min i j).toNat) (min i j)) := by
      simp only [Ieee.Datum.sum, Ieee.signed]
      congr 2
      simp only [Bool.false_eq_true, if_false]
      generalize m <<< (i - min i j).toNat = a
      generalize n <<< (j - min i j).toNat = b
      split
      · rfl
      · rw [decide_eq_false_iff_not]; omega
    rw [key]
    refine ⟨_, rfl, write_le _ _, fun h => write_pos ?_ (by omega)⟩
    have := shl_pos (hn h) (j - min i j).toNat
    exact Nat.lt_of_lt_of_le this (Nat.le_add_left _ _)
  · rw [e1, e2]; exact ⟨_, rfl, by rw [write_inf]; omega, fun _ => by rw [write_inf]; omega⟩
  · rw [e1, e2]; exact ⟨_, rfl, by rw [write_inf]; omega, fun _ => by rw [write_inf]; omega⟩
  · rw [e1, e2]; exact ⟨_, rfl, by rw [write_inf]; omega, fun _ => by rw [write_inf]; omega⟩

theorem order_self {r : Nat} (h : r ≤ 9218868437227405312) : (Ieee.double.order r r == some Ordering.eq) = true := by
  unfold Ieee.Format.order
  rcases read_ok h with ⟨m, i, e1, _, _⟩ | ⟨_, e1⟩
  · rw [e1]; simp [Ieee.Datum.order, Ieee.signed]
  · rw [e1]; rfl
theorem read0 : Ieee.double.read 0 = .number false 0 (-1074) := by decide
theorem order_pos {s : Nat} (h : s ≤ 9218868437227405312) (h0 : 0 < s) : (Ieee.double.order s 0 == some Ordering.eq) = false := by
  unfold Ieee.Format.order
  rw [read0]
  rcases read_ok h with ⟨m, i, e1, _, hm⟩ | ⟨_, e1⟩
  · rw [e1]
    have := shl_pos (hm h0) (i - min i (-1074)).toNat
    simp only [Ieee.Datum.order, Ieee.signed]
    simp only [Bool.false_eq_true, if_false, Nat.zero_shiftLeft]
    rw [show compare ((m <<< (i - min i (-1074)).toNat : Nat) : Int) ((0 : Nat) : Int) = .gt by
      rw [Int.compare_eq_gt]; omega]
    rfl
  · rw [e1]; rfl

theorem div_ok {m s : Nat} (hm : m < 9218868437227405312) (hm0 : 0 < m) (hs : s ≤ 9218868437227405312) (h0 : 0 < s) : ∃ r, Ieee.double.div m s = some r ∧ r ≤ 9218868437227405312 := by
  unfold Ieee.Format.div
  rcases read_ok (show m ≤ 9218868437227405312 by omega) with ⟨a, i, e1, _, _⟩ | ⟨_, _⟩
  · rcases read_ok hs with ⟨n, j, e2, hj, hn⟩ | ⟨_, e2⟩
    · rw [e1, e2]
      have := hn h0
      simp only [Ieee.Datum.quotient]
      rw [if_neg (by omega)]
      exact ⟨_, rfl, write_le _ _⟩
    · rw [e1, e2]; exact ⟨_, rfl, write_le _ _⟩
  · omega
theorem mul_ok {m s : Nat} (hm : m < 9218868437227405312) (hm0 : 0 < m) (hs : s ≤ 9218868437227405312) : ∃ r, Ieee.double.mul m s = some r ∧ r ≤ 9218868437227405312 := by
  unfold Ieee.Format.mul
  rcases read_ok (show m ≤ 9218868437227405312 by omega) with ⟨a, i, e1, _, ha⟩ | ⟨_, _⟩
  · have := ha hm0
    rcases read_ok hs with ⟨n, j, e2, hj, hn⟩ | ⟨_, e2⟩
    · rw [e1, e2]; exact ⟨_, rfl, write_le _ _⟩
    · rw [e1, e2]; simp only [Ieee.Datum.product]; rw [if_neg (by omega)]; exact ⟨_, rfl, by show Ieee.double.write (.infinity false) ≤ _; rw [write_inf]; omega⟩
  · omega

def okN (n : Nat) : Bool := 0 < floatOfInt .f64 n && floatOfInt .f64 n < 9218868437227405312 && match Ieee.double.mul 4604480259023595110 (floatOfInt .f64 n) with
  | some a => 0 < a && a < 9218868437227405312
  | none => false
theorem okN_all : (List.range 300).all (fun n => okN (n + 1)) = true := by decide +kernel
open Hll
theorem about_ok {n T : Nat} (hn : 0 < n) (hn2 : n ≤ 300) (hT : T ≤ 9218868437227405312) (h0 : 0 < T) :
    ∃ a b r, Ieee.double.mul 4604480259023595110 (floatOfInt .f64 n) = some a ∧ Ieee.double.div (floatOfInt .f64 n) T = some b ∧ Ieee.double.mul a b = some r ∧ aboutF n T = some r ∧ r ≤ 9218868437227405312 := by
  have h1 := List.all_eq_true.1 okN_all (n - 1) (List.mem_range.2 (by omega))
  rw [show n - 1 + 1 = n by omega] at h1
  unfold okN at h1
  simp only [Bool.and_eq_true, decide_eq_true_eq] at h1
  obtain ⟨⟨h2, h3⟩, h4⟩ := h1
  cases ha : Ieee.double.mul 4604480259023595110 (floatOfInt .f64 n) with
  | none => rw [ha] at h4; cases h4
  | some a =>
    rw [ha] at h4
    simp only [Bool.and_eq_true, decide_eq_true_eq] at h4
    obtain ⟨b, hb, hb2⟩ := div_ok h3 h2 hT h0
    obtain ⟨r, hr, hr2⟩ := mul_ok h4.2 h4.1 hb2
    refine ⟨a, b, r, rfl, hb, hr, ?_, hr2⟩
    unfold aboutF
    rw [order_pos hT h0, if_neg (by decide), ha]
    show (Ieee.double.div _ _).bind _ = _
    rw [hb]
    exact hr
theorem about0 : aboutF 0 0 = some 0 := by decide +kernel
theorem inv_le : ∀ m : Fin 64, 0 < invF (m.val : Int) ∧ invF (m.val : Int) ≤ 9218868437227405312 := by decide +kernel
theorem inv_ok {x : Int} (h : 0 ≤ x) : 0 < invF x ∧ invF x ≤ 9218868437227405312 := by
  have e : invF x = invF (((min x 63).toNat : Nat) : Int) := by unfold invF; rw [show min (((min x 63).toNat : Nat) : Int) 63 = min x 63 by omega]
  rw [e]
  exact inv_le ⟨(min x 63).toNat, by omega⟩
theorem sum_ok : ∀ (xs : List Int) (s : Nat), (∀ x ∈ xs, 0 ≤ x) → s ≤ 9218868437227405312 → ∃ T, sumF s xs = some T ∧ T ≤ 9218868437227405312 ∧ (xs ≠ [] → 0 < T)
  | [], s, _, h => ⟨s, rfl, h, fun h => absurd rfl h⟩
  | x :: xs, s, hx, h => by
    have hi := inv_ok (hx x List.mem_cons_self)
    obtain ⟨r, hr, hr2, hr3⟩ := add_ok h hi.2
    obtain ⟨T, hT, hT2, hT3⟩ := sum_ok xs r (fun y hy => hx y (List.mem_cons_of_mem _ hy)) hr2
    refine ⟨T, ?_, hT2, fun _ => ?_⟩
    · show (Ieee.double.add s (invF x)).bind _ = _
      rw [hr]; exact hT
    · cases xs with
      | nil => obtain rfl : r = T := by simpa [sumF] using hT
               exact hr3 hi.1
      | cons y ys => exact hT3 (by simp)
/-- Half of half .. of one. -/
def halfF : Nat → Option Nat
  | 0 => some 4607182418800017408
  | k + 1 => (halfF k).bind fun a => Ieee.double.div a 4611686018427387904
theorem half_inv : ∀ m : Fin 64, halfF m.val = some (invF (m.val : Int)) := by decide +kernel
end Go.Proofs.Ytolhhbnamldghaa.Fl
