/- What the printed functions of set tell, in plain lists. -/
import Derived.Test.YtolhhbnamldghaaPSetBothx1
import Derived.Test.YtolhhbnamldghaaPSetBothx2
import Derived.Test.YtolhhbnamldghaaSetOr
namespace Go.Proofs.Ytolhhbnamldghaa.PureB
open Go.RowKit Go.Proofs.Ytolhhbnamldghaa.PSetBoth Go.Proofs.YtolhhbnamldghaaW.PrintWords Go.Proofs.YtolhhbnamldghaaW.PrintLast Go.Proofs.YtolhhbnamldghaaW.PrintMore Go.Proofs.Ytolhhbnamldghaa.Set

theorem rd_z (x : Int) (s : List Int) : rd (x :: s) 0 = x := rfl
theorem e0 : (([] : List Int).length : Int) = 0 := rfl
theorem w0 : ¬ wrap64 ((([] : List Int).length : Int) + (([] : List Int).length : Int)) > 0 := by rw [e0]; unfold wrap64; omega
theorem or_l (n : Nat) : ∀ (s o acc : List Int) (k : Nat), s.length + o.length ≤ n → acc.length + n ≤ 1000000 → 2 * n + 1 ≤ k → set_Set_Or.l0 k s o acc = some (acc ++ orL s o) := by
  induction n with
  | zero =>
    intro s o acc k h hl hk
    obtain rfl : s = [] := List.eq_nil_of_length_eq_zero (by omega)
    obtain rfl : o = [] := List.eq_nil_of_length_eq_zero (by omega)
    obtain ⟨k, rfl⟩ : ∃ q, k = q + 1 := ⟨k - 1, by omega⟩
    rw [set_Set_Or.l0, orL_nil, List.append_nil, if_neg w0]
  | succ n ih =>
    intro s o acc k h hl hk
    obtain ⟨k, rfl⟩ : ∃ q, k = q + 1 + 1 := ⟨k - 2, by omega⟩
    match s, o with
    | [], [] => rw [set_Set_Or.l0, orL_nil, List.append_nil, if_neg w0]
    | x :: s, [] =>
      simp only [List.length_cons, List.length_nil] at h
      have hw : wrap64 (((x :: s).length : Int) + (([] : List Int).length : Int)) > 0 := by simp only [List.length_cons, List.length_nil]; unfold wrap64; omega
      rw [set_Set_Or.l0, if_pos hw, if_pos e0, set_Set_Or.j1, if_pos rfl, if_pos (by simp only [List.length_cons]; omega), if_pos (by omega), if_pos (by simp only [List.length_cons]; omega), List.drop_one, List.tail_cons, rd_z]
      rw [ih s [] (acc ++ [x]) k (by simp only [List.length_nil]; omega) (by simp only [List.length_append, List.length_cons, List.length_nil]; omega) (by omega), orL_nil, orL_nil, List.append_assoc]; rfl
    | [], y :: o =>
      simp only [List.length_cons, List.length_nil] at h
      have hw : wrap64 ((([] : List Int).length : Int) + ((y :: o).length : Int)) > 0 := by simp only [List.length_cons, List.length_nil]; unfold wrap64; omega
      rw [set_Set_Or.l0, if_pos hw, if_neg (by simp only [List.length_cons]; omega), if_neg (show ¬ (([] : List Int).length : Int) > 0 by decide), set_Set_Or.j1, if_neg (by decide), if_pos e0, if_pos (by simp only [List.length_cons]; omega), if_pos (by omega), if_pos (by simp only [List.length_cons]; omega), List.drop_one, List.tail_cons, rd_z]
      rw [ih [] o (acc ++ [y]) k (by simp only [List.length_nil]; omega) (by simp only [List.length_append, List.length_cons, List.length_nil]; omega) (by omega), orL_nil', orL_nil', List.append_assoc]; rfl
    | x :: s, y :: o =>
      simp only [List.length_cons] at h
      have hw : wrap64 (((x :: s).length : Int) + ((y :: o).length : Int)) > 0 := by simp only [List.length_cons]; unfold wrap64; omega
      have p1 : (0 : Int) < ((x :: s).length : Int) := by simp only [List.length_cons]; omega
      have p2 : (0 : Int) < ((y :: o).length : Int) := by simp only [List.length_cons]; omega
      have q1 : (1 : Int) ≤ ((x :: s).length : Int) := by simp only [List.length_cons]; omega
      have q2 : (1 : Int) ≤ ((y :: o).length : Int) := by simp only [List.length_cons]; omega
      have z1 : ¬ ((x :: s).length : Int) = 0 := by simp only [List.length_cons]; omega
      have z2 : ¬ ((y :: o).length : Int) = 0 := by simp only [List.length_cons]; omega
      have hacc : acc.length < 35184372088832 := by omega
      rw [set_Set_Or.l0, if_pos hw, if_neg z2, if_pos p1, if_pos p1, if_pos p2, rd_z, rd_z, set_Set_Or.j1, orL_cons]
      clear hw
      by_cases h1 : x < y
      · rw [if_pos (decide_eq_true h1), if_pos p1, if_pos hacc, if_pos q1, if_pos h1, List.drop_one, List.tail_cons, rd_z]
        rw [ih s (y :: o) (acc ++ [x]) k (by simp only [List.length_cons]; omega) (by simp only [List.length_append, List.length_cons, List.length_nil]; omega) (by omega), List.append_assoc]; rfl
      · rw [if_neg (by simpa using h1), if_neg z1, if_pos p2, if_pos p1, rd_z, rd_z, if_neg h1]
        by_cases h2 : y < x
        · rw [if_pos h2, if_pos hacc, if_pos q2, if_pos h2, List.drop_one, List.tail_cons]
          rw [ih (x :: s) o (acc ++ [y]) k (by simp only [List.length_cons]; omega) (by simp only [List.length_append, List.length_cons, List.length_nil]; omega) (by omega), List.append_assoc]; rfl
        · rw [if_neg h2, if_pos hacc, if_pos q1, if_pos q2, if_neg h2, List.drop_one, List.tail_cons, List.drop_one, List.tail_cons]
          rw [ih s o (acc ++ [x]) k (by omega) (by simp only [List.length_append, List.length_cons, List.length_nil]; omega) (by omega), List.append_assoc]; rfl
theorem or_f (s o : List Int) (hs : s.length ≤ 200) (ho : o.length ≤ 200) {k : Nat} (hk : 801 ≤ k) : set_Set_Or.f k s o = some (orL s o) := by
  unfold set_Set_Or.f
  rw [or_l (s.length + o.length) s o [] k (Nat.le_refl _) (by simp only [List.length_nil]; omega) (by omega)]; rfl
theorem and_f {s o : List Int} (hs : s.length ≤ 200) (ho : o.length ≤ 200) (has : Asc s) (hao : Asc o) : set_Set_And.f s o = some (andL s o) := by
  unfold set_Set_And.f
  rw [if_pos ⟨by omega, by omega, has, hao⟩]
theorem same_l (s : List Int) (hs : s.length ≤ 1000) : ∀ (n i k : Nat), i + n = s.length → n < k → set_Same.l0 k s s (s.length : Int) i = some true
  | 0, i, k, hi, hk => by
    obtain ⟨k, rfl⟩ : ∃ q, k = q + 1 := ⟨k - 1, by omega⟩
    rw [set_Same.l0, if_neg (by omega)]
  | n + 1, i, k, hi, hk => by
    obtain ⟨k, rfl⟩ : ∃ q, k = q + 1 := ⟨k - 1, by omega⟩
    have hw : wrap64 ((i : Int) + 1) = ((i + 1 : Nat) : Int) := by unfold wrap64; omega
    rw [set_Same.l0, if_pos (by omega), if_pos (by omega), if_pos (by omega), if_pos (by omega), if_pos rfl, hw]
    exact same_l s hs n (i + 1) k (by omega) (by omega)
theorem same_f {s o : List Int} (h : s = o) (hs : s.length ≤ 1000) {k : Nat} (hk : 1001 ≤ k) : set_Same.f k s o = some true := by
  subst h
  unfold set_Same.f
  rw [if_pos rfl]
  exact same_l s hs s.length 0 k (by omega) (by omega)
/-- Small ones, as a rule. -/
def fewL (b : Bool) (l : List Int) : List Int := l.map fun x => if b then Int.tmod x 50 else x
theorem few_snoc (b : Bool) (l : List Int) {i : Nat} (hi : i < l.length) : fewL b (l.take (i + 1)) = fewL b (l.take i) ++ [if b then Int.tmod (rd l i) 50 else rd l i] := by
  have e : l.take (i + 1) = l.take i ++ [rd l i] := by
    rw [List.take_succ_eq_append_getElem hi]
    unfold rd
    rw [Int.toNat_natCast]; simp [List.getD_eq_getElem?_getD, hi]
  rw [e]; unfold fewL; rw [List.map_append]; rfl
theorem of_l (b : Bool) (l : List Int) (hl : l.length ≤ 1000) : ∀ (n i k : Nat), i + n = l.length → n < k → herbariumlaw11_Of.l0 k b (fewL b (l.take i)) l (l.length : Int) i = (set_Of.f (fewL b l)).bind fun bt => some (bt.1, bt.2)
  | 0, i, k, hi, hk => by
    obtain ⟨k, rfl⟩ : ∃ q, k = q + 1 := ⟨k - 1, by omega⟩
    rw [herbariumlaw11_Of.l0, if_neg (by omega), List.take_of_length_le (by omega)]
  | n + 1, i, k, hi, hk => by
    obtain ⟨k, rfl⟩ : ∃ q, k = q + 1 := ⟨k - 1, by omega⟩
    have hw : wrap64 ((i : Int) + 1) = ((i + 1 : Nat) : Int) := by unfold wrap64; omega
    have hlen : (fewL b (l.take i)).length < 35184372088832 := by unfold fewL; rw [List.length_map, List.length_take]; omega
    rw [herbariumlaw11_Of.l0, if_pos (by omega), if_pos (by omega), if_pos (by omega), if_pos hlen, if_pos hlen, hw]
    have hs := few_snoc b l (i := i) (by omega)
    have ih := of_l b l hl n (i + 1) k (by omega) (by omega)
    rw [hs] at ih
    cases b with
    | true => rw [if_pos rfl]; exact ih
    | false => rw [if_neg (by decide)]; exact ih
theorem law_of (b : Bool) (l : List Int) (hl : l.length ≤ 100) {k : Nat} (hk : 101 ≤ k) : ∃ t, herbariumlaw11_Of.f k l b = some (t, 0) ∧ Asc t ∧ t.length ≤ l.length ∧ ∀ x, x ∈ t ↔ x ∈ fewL b l := by
  have hfl : (fewL b l).length = l.length := by unfold fewL; rw [List.length_map]
  obtain ⟨t, h1, h2, h3, h4⟩ := ofL_some (fewL b l) [] List.Pairwise.nil (by rw [hfl, List.length_nil]; omega)
  refine ⟨t, ?_, h2, by rw [hfl, List.length_nil] at h3; omega, fun x => by rw [h4]; simp⟩
  unfold herbariumlaw11_Of.f
  have := of_l b l (by omega) l.length 0 k (by omega) (by omega)
  rw [List.take_zero] at this
  have e : fewL b [] = [] := rfl
  rw [e] at this
  refine Eq.trans this ?_
  unfold set_Of.f
  rw [if_pos (by rw [hfl]; omega), h1]; rfl
end Go.Proofs.Ytolhhbnamldghaa.PureB
