/- What is in one of two rising lists or the other, and its laws. It speaks of no program. -/
import Derived.Test.YtolhhbnamldghaaSetM
namespace Go.Proofs.Ytolhhbnamldghaa.Set

def orL : List Int → List Int → List Int
  | s, [] => s
  | [], y :: o => y :: o
  | x :: s, y :: o => if x < y then x :: orL s (y :: o) else if y < x then y :: orL (x :: s) o else x :: orL s o
termination_by s o => s.length + o.length
theorem orL_nil (s : List Int) : orL s [] = s := by unfold orL; cases s <;> rfl
theorem orL_nil' (o : List Int) : orL [] o = o := by cases o <;> (unfold orL; rfl)
theorem orL_cons (x y : Int) (s o : List Int) : orL (x :: s) (y :: o) = if x < y then x :: orL s (y :: o) else if y < x then y :: orL (x :: s) o else x :: orL s o := by rw [orL]
theorem orL_all (n : Nat) : ∀ (s o : List Int), s.length + o.length ≤ n → (∀ x, x ∈ orL s o ↔ x ∈ s ∨ x ∈ o) ∧ (orL s o).length ≤ s.length + o.length ∧ (Asc s → Asc o → Asc (orL s o)) := by
  induction n with
  | zero =>
    intro s o h
    obtain rfl : s = [] := List.eq_nil_of_length_eq_zero (by omega)
    obtain rfl : o = [] := List.eq_nil_of_length_eq_zero (by omega)
    rw [orL_nil]
    exact ⟨fun x => by simp, by simp, fun h _ => h⟩
  | succ n ih =>
    intro s o h
    match s, o with
    | s, [] => rw [orL_nil]; exact ⟨fun x => by simp, by simp, fun h _ => h⟩
    | [], y :: o => rw [orL_nil']; exact ⟨fun x => by simp, by simp, fun _ h => h⟩
    | x :: s, y :: o =>
      simp only [List.length_cons] at h
      rw [orL_cons]
      split
      · rename_i hxy
        obtain ⟨h1, h2, h3⟩ := ih s (y :: o) (by simp only [List.length_cons]; omega)
        refine ⟨fun z => by rw [List.mem_cons, h1, List.mem_cons (l := s), or_assoc], by simp only [List.length_cons] at h2 ⊢; omega, fun ha hb => ?_⟩
        rw [Asc, List.pairwise_cons] at ha ⊢
        refine ⟨fun z hz => ?_, h3 ha.2 hb⟩
        rcases (h1 z).1 hz with hz | hz
        · exact ha.1 z hz
        · rw [Asc, List.pairwise_cons] at hb
          rcases List.mem_cons.1 hz with rfl | hz
          · exact hxy
          · exact Int.lt_trans hxy (hb.1 z hz)
      · split
        · rename_i hxy
          obtain ⟨h1, h2, h3⟩ := ih (x :: s) o (by simp only [List.length_cons]; omega)
          refine ⟨fun z => ?_, by simp only [List.length_cons] at h2 ⊢; omega, fun ha hb => ?_⟩
          · rw [List.mem_cons, h1, List.mem_cons, List.mem_cons]
            constructor
            · rintro (h | h | h)
              · exact .inr (.inl h)
              · exact .inl h
              · exact .inr (.inr h)
            · rintro (h | h | h)
              · exact .inr (.inl h)
              · exact .inl h
              · exact .inr (.inr h)
          · rw [Asc, List.pairwise_cons] at hb ⊢
            refine ⟨fun z hz => ?_, h3 ha hb.2⟩
            rcases (h1 z).1 hz with hz | hz
            · rw [Asc, List.pairwise_cons] at ha
              rcases List.mem_cons.1 hz with rfl | hz
              · exact hxy
              · exact Int.lt_trans hxy (ha.1 z hz)
            · exact hb.1 z hz
        · rename_i h4 h5
          obtain rfl : x = y := by omega
          obtain ⟨h1, h2, h3⟩ := ih s o (by omega)
          refine ⟨fun z => ?_, by simp only [List.length_cons] at h2 ⊢; omega, fun ha hb => ?_⟩
          · rw [List.mem_cons, h1, List.mem_cons, List.mem_cons]
            constructor
            · rintro (h | h | h)
              · exact .inl (.inl h)
              · exact .inl (.inr h)
              · exact .inr (.inr h)
            · rintro ((h | h) | h | h)
              · exact .inl h
              · exact .inr (.inl h)
              · exact .inl h
              · exact .inr (.inr h)
          · rw [Asc, List.pairwise_cons] at ha hb ⊢
            refine ⟨fun z hz => ?_, h3 ha.2 hb.2⟩
            rcases (h1 z).1 hz with hz | hz
            · exact ha.1 z hz
            · exact hb.1 z hz
theorem mem_orL {s o : List Int} {x : Int} : x ∈ orL s o ↔ x ∈ s ∨ x ∈ o := (orL_all _ s o (Nat.le_refl _)).1 x
theorem orL_le (s o : List Int) : (orL s o).length ≤ s.length + o.length := (orL_all _ s o (Nat.le_refl _)).2.1
theorem asc_orL {s o : List Int} (h : Asc s) (h' : Asc o) : Asc (orL s o) := (orL_all _ s o (Nat.le_refl _)).2.2 h h'
theorem andL_le (s o : List Int) : (andL s o).length ≤ s.length := List.length_filter_le _ _
end Go.Proofs.Ytolhhbnamldghaa.Set
