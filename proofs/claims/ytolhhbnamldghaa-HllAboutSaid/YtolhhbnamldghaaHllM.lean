/- Registers of the longest rows of noughts, in plain lists: a hash's place, one hash more, many hashes in whatever order. It speaks of no program. -/
import Derived.Lib.BitFns
namespace Go.Proofs.Ytolhhbnamldghaa.HllM
open Go

theorem bitLenAux_le : ∀ f x, Lib.bitLenAux f x ≤ f
  | 0, _ => Nat.le_refl _
  | f + 1, x => by
    unfold Lib.bitLenAux
    have := bitLenAux_le f (x / 2)
    split <;> omega
theorem bitLen_le (x : Nat) : Lib.bitLen x ≤ 64 := bitLenAux_le 64 x

theorem bitLenAux_of : ∀ (j f x : Nat), x / 2 ^ j = 1 → j < f → Lib.bitLenAux f x = j + 1
  | 0, f + 1, x, h, _ => by
    have hx : x = 1 := by simpa using h
    subst hx
    unfold Lib.bitLenAux
    rw [if_neg (by decide)]
    cases f <;> simp [Lib.bitLenAux]
  | j + 1, f + 1, x, h, hf => by
    unfold Lib.bitLenAux
    have h2 : x / 2 / 2 ^ j = 1 := by rw [Nat.div_div_eq_div_mul, ← Nat.pow_succ']; exact h
    have hx : x ≠ 0 := by rintro rfl; simp at h
    rw [if_neg hx, bitLenAux_of j f (x / 2) h2 (by omega)]; omega
theorem bitLen_of {x j : Nat} (h : x / 2 ^ j = 1) (hj : j < 64) : Lib.bitLen x = j + 1 := bitLenAux_of j 64 x h hj

def iOf (p : Nat) (h : Int) : Nat := (h / 2 ^ (64 - p)).toNat
def nOf (p : Nat) (h : Int) : Int := min (64 - (Lib.bitLen ((h * 2 ^ p) % 18446744073709551616).toNat : Int)) (64 - p) + 1
def upd (p : Nat) (R : List Int) (h : Int) : List Int := R.set (iOf p h) (max (R.getD (iOf p h) 0) (nOf p h))
def IsHash (h : Int) : Prop := 0 ≤ h ∧ h < 18446744073709551616

theorem iOf_lt {p : Nat} {h : Int} (hp : p ≤ 8) (hh : IsHash h) : iOf p h < 2 ^ p := by
  have h1 : (h / 2 ^ (64 - p)) < 2 ^ p := by
    apply Int.ediv_lt_of_lt_mul (by exact_mod_cast Nat.pow_pos (show 0 < 2 by omega))
    have : (2 : Int) ^ p * 2 ^ (64 - p) = 18446744073709551616 := by
      rw [← Int.pow_add, show p + (64 - p) = 64 by omega]; decide
    rw [this]; exact hh.2
  unfold iOf
  have h2 : ((2 ^ p : Nat) : Int) = 2 ^ p := by rw [Int.natCast_pow]; rfl
  have h3 : 0 < 2 ^ p := Nat.pow_pos (by omega)
  omega

theorem nOf_bd {p : Nat} (hp : p ≤ 8) (h : Int) : 1 ≤ nOf p h ∧ nOf p h ≤ 65 - p := by
  have := bitLen_le ((h * 2 ^ p) % 18446744073709551616).toNat
  unfold nOf; omega

/-! ### many -/
theorem upd_length (p : Nat) (R : List Int) (h : Int) : (upd p R h).length = R.length := by simp [upd]
def updE (R : List Int) (i : Nat) (n : Int) : List Int := R.set i (max (R.getD i 0) n)
theorem updE_get (R : List Int) (i : Nat) (n : Int) (hi : i < R.length) (j : Nat) : (updE R i n).getD j 0 = if j = i then max (R.getD j 0) n else R.getD j 0 := by
  unfold updE
  simp only [List.getD_eq_getElem?_getD, List.getElem?_set]
  by_cases h : j = i
  · subst h; simp [hi]
  · simp [h, Ne.symm h]
theorem updE_length (R : List Int) (i : Nat) (n : Int) : (updE R i n).length = R.length := by simp [updE]
theorem ext_getD {a b : List Int} (hl : a.length = b.length) (h : ∀ j, a.getD j 0 = b.getD j 0) : a = b := by
  apply List.ext_getElem hl
  intro i h1 h2
  have := h i
  simpa [List.getD_eq_getElem?_getD, h1, h2] using this
theorem updE_comm (R : List Int) (i k : Nat) (n m : Int) (hi : i < R.length) (hk : k < R.length) : updE (updE R i n) k m = updE (updE R k m) i n := by
  apply ext_getD (by simp [updE_length])
  intro j
  rw [updE_get _ _ _ (by rwa [updE_length]), updE_get _ _ _ hi, updE_get _ _ _ (by rwa [updE_length]), updE_get _ _ _ hk]
  by_cases h1 : j = i <;> by_cases h2 : j = k <;> simp [h1, h2] <;> omega
theorem updE_twice (R : List Int) (i : Nat) (n : Int) (hi : i < R.length) : updE (updE R i n) i n = updE R i n := by
  apply ext_getD (by simp [updE_length])
  intro j
  rw [updE_get _ _ _ (by rwa [updE_length]), updE_get _ _ _ hi]
  by_cases h1 : j = i <;> simp [h1] <;> omega
theorem upd_eq (p : Nat) (R : List Int) (h : Int) : upd p R h = updE R (iOf p h) (nOf p h) := rfl
/-- Registers of power p. -/
def Regs (p : Nat) (R : List Int) : Prop := R.length = 2 ^ p
theorem Regs.upd {p : Nat} {R : List Int} (h : Regs p R) (x : Int) : Regs p (HllM.upd p R x) := by unfold Regs; rw [upd_length]; exact h
theorem foldl_regs {p : Nat} : ∀ (l : List Int) (R : List Int), Regs p R → Regs p (l.foldl (HllM.upd p) R)
  | [], _, h => h
  | x :: l, R, h => foldl_regs l _ (h.upd x)
theorem foldl_upd_comm {p : Nat} (hp : p ≤ 8) : ∀ (l : List Int) (R : List Int) (x : Int), Regs p R → IsHash x → (∀ y ∈ l, IsHash y) → l.foldl (HllM.upd p) (HllM.upd p R x) = HllM.upd p (l.foldl (HllM.upd p) R) x
  | [], _, _, _, _, _ => rfl
  | y :: l, R, x, hR, hx, hl => by
    simp only [List.foldl_cons]
    have e : HllM.upd p (HllM.upd p R x) y = HllM.upd p (HllM.upd p R y) x := by
      have h1 : iOf p x < R.length := by rw [hR]; exact iOf_lt hp hx
      have h2 : iOf p y < R.length := by rw [hR]; exact iOf_lt hp (hl y List.mem_cons_self)
      simp only [upd_eq]; exact updE_comm _ _ _ _ _ h1 h2
    rw [e, foldl_upd_comm hp l _ x (hR.upd y) hx (fun z hz => hl z (List.mem_cons_of_mem _ hz))]
theorem foldl_reverse {p : Nat} (hp : p ≤ 8) : ∀ (l : List Int) (R : List Int), Regs p R → (∀ y ∈ l, IsHash y) → l.reverse.foldl (HllM.upd p) R = l.foldl (HllM.upd p) R
  | [], _, _, _ => rfl
  | x :: l, R, hR, hl => by
    rw [List.reverse_cons, List.foldl_append, foldl_reverse hp l R hR (fun z hz => hl z (List.mem_cons_of_mem _ hz))]
    simp only [List.foldl_cons, List.foldl_nil]
    rw [foldl_upd_comm hp l R x hR (hl x List.mem_cons_self) (fun z hz => hl z (List.mem_cons_of_mem _ hz))]
def noughts (R : List Int) : Nat := R.countP (· == 0)
theorem upd_ge {p : Nat} (hp : p ≤ 8) {R : List Int} (hR : Regs p R) {x : Int} (hx : IsHash x) (j : Nat) : R.getD j 0 ≤ (HllM.upd p R x).getD j 0 := by
  rw [upd_eq, updE_get _ _ _ (by rw [hR]; exact iOf_lt hp hx)]
  split <;> omega
theorem countP_le_of : ∀ (a b : List Int), a.length = b.length → (∀ j, a.getD j 0 ≤ b.getD j 0) → (∀ x ∈ a, 0 ≤ x) → noughts b ≤ noughts a
  | [], [], _, _, _ => Nat.le_refl _
  | x :: a, y :: b, hl, h, h0 => by
    have ih := countP_le_of a b (by simpa using hl) (fun j => by simpa using h (j + 1)) (fun z hz => h0 z (List.mem_cons_of_mem _ hz))
    have hxy : x ≤ y := by simpa using h 0
    have hx0 := h0 x List.mem_cons_self
    unfold noughts at *
    simp only [List.countP_cons]
    by_cases e : y = 0
    · have : x = 0 := by omega
      simp [e, this]; exact ih
    · simp [e]; omega
def RegOk (R : List Int) : Prop := ∀ x ∈ R, 0 ≤ x ∧ x ≤ 61
end Go.Proofs.Ytolhhbnamldghaa.HllM
