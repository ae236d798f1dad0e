/- Rising lists as sets: insertion, one by one; two with the same members are the same. It speaks of no program. -/
import Derived.Test.YtolhhbnamldghaaSetOf
namespace Go.Proofs.Ytolhhbnamldghaa.Set

/-- Numbers that rise. -/
abbrev Asc (s : List Int) : Prop := s.Pairwise (· < ·)

theorem asc_ext : ∀ {a b : List Int}, Asc a → Asc b → (∀ x, x ∈ a ↔ x ∈ b) → a = b
  | [], [], _, _, _ => rfl
  | [], y :: b, _, _, h => absurd ((h y).2 List.mem_cons_self) (by simp)
  | x :: a, [], _, _, h => absurd ((h x).1 List.mem_cons_self) (by simp)
  | x :: a, y :: b, ha, hb, h => by
    rw [Asc, List.pairwise_cons] at ha hb
    have hxy : x = y := by
      rcases List.mem_cons.1 ((h x).1 List.mem_cons_self) with e | e
      · exact e
      · rcases List.mem_cons.1 ((h y).2 List.mem_cons_self) with e2 | e2
        · exact e2.symm
        · have h1 := hb.1 x e
          have h2 := ha.1 y e2
          omega
    subst hxy
    have : a = b := asc_ext ha.2 hb.2 fun z => by
      have hz := h z
      rw [List.mem_cons, List.mem_cons] at hz
      constructor
      · intro hm
        rcases hz.1 (.inr hm) with e | e
        · subst e; have := ha.1 z hm; omega
        · exact e
      · intro hm
        rcases hz.2 (.inr hm) with e | e
        · subst e; have := hb.1 z hm; omega
        · exact e
    rw [this]

theorem asc_getD {s : List Int} (h : Asc s) {i j : Nat} (hij : i < j) (hj : j < s.length) : s.getD i 0 < s.getD j 0 := by
  simp only [List.getD_eq_getElem?_getD, List.getElem?_eq_getElem hj, List.getElem?_eq_getElem (show i < s.length by omega), Option.getD_some]
  exact List.pairwise_iff_getElem.1 h i j (by omega) hj hij
theorem asc_of {s : List Int} (h : ∀ i, i + 1 < s.length → s.getD i 0 < s.getD (i + 1) 0) : Asc s := by
  have key : ∀ d i, i + d + 1 < s.length → s.getD i 0 < s.getD (i + d + 1) 0 := by
    intro d
    induction d with
    | zero => intro i hi; exact h i hi
    | succ d ih => intro i hi; exact Int.lt_trans (ih i (by omega)) (h (i + d + 1) (by omega))
  rw [Asc, List.pairwise_iff_getElem]
  intro i j hi hj hij
  have := key (j - i - 1) i (by omega)
  rw [show i + (j - i - 1) + 1 = j by omega] at this
  simpa [List.getD_eq_getElem?_getD, hi, hj] using this

theorem findD_none {s : List Int} {n : Int} : ∀ {k : Nat}, k ≤ s.length → findD s n k = none → n ∈ s
  | 0, _, h => by cases h
  | k + 1, hk, h => by
    unfold findD at h
    split at h
    · split at h
      · rename_i e
        rw [← e, List.getD_eq_getElem?_getD, List.getElem?_eq_getElem (by omega)]
        exact List.getElem_mem _
      · exact findD_none (by omega) h
    · cases h
theorem findD_some {s : List Int} (hs : Asc s) {n : Int} : ∀ {k j : Nat}, k ≤ s.length → findD s n k = some j → j ≤ k ∧ (∀ i, i < j → s.getD i 0 < n) ∧ ∀ i, j ≤ i → i < k → n < s.getD i 0
  | 0, j, _, h => by injection h with h; subst h; exact ⟨Nat.le_refl _, fun i hi => by omega, fun i _ hi => by omega⟩
  | k + 1, j, hk, h => by
    unfold findD at h
    split at h
    · split at h
      · cases h
      · rename_i h1 h2
        obtain ⟨a, b, c⟩ := findD_some hs (by omega) h
        refine ⟨by omega, b, fun i h3 h4 => ?_⟩
        by_cases hik : i = k
        · subst hik; omega
        · exact c i h3 (by omega)
    · rename_i h1
      injection h with h
      subst h
      refine ⟨Nat.le_refl _, fun i hi => ?_, fun i _ hi => by omega⟩
      by_cases hik : i = k
      · subst hik; omega
      · have := asc_getD hs (show i < k by omega) (by omega); omega

theorem mem_ins {s : List Int} {j : Nat} {n x : Int} : x ∈ ins s j n ↔ x = n ∨ x ∈ s := by
  unfold ins
  rw [List.mem_append, List.mem_cons]
  constructor
  · rintro (h | h | h)
    · exact .inr (List.mem_of_mem_take h)
    · exact .inl h
    · exact .inr (List.mem_of_mem_drop h)
  · rintro (h | h)
    · exact .inr (.inl h)
    · rw [← List.take_append_drop j s, List.mem_append] at h
      rcases h with h | h
      · exact .inl h
      · exact .inr (.inr h)
theorem asc_ins {s : List Int} (hs : Asc s) {j : Nat} {n : Int} (hj : j ≤ s.length) (h1 : ∀ i, i < j → s.getD i 0 < n) (h2 : ∀ i, j ≤ i → i < s.length → n < s.getD i 0) : Asc (ins s j n) := by
  have key : ∀ i (hi : i < s.length), s.getD i 0 = s[i] := fun i hi => by simp [List.getD_eq_getElem?_getD, hi]
  unfold ins
  rw [Asc, List.pairwise_append, List.pairwise_cons]
  refine ⟨hs.sublist (List.take_sublist _ _), ⟨fun x hx => ?_, hs.sublist (List.drop_sublist _ _)⟩, fun x hx y hy => ?_⟩
  · obtain ⟨i, hi, rfl⟩ := List.mem_iff_getElem.1 hx
    rw [List.length_drop] at hi
    rw [List.getElem_drop, ← key]
    exact h2 _ (by omega) (by omega)
  · obtain ⟨i, hi, rfl⟩ := List.mem_iff_getElem.1 hx
    rw [List.length_take] at hi
    rw [List.getElem_take, ← key _ (by omega)]
    have hxn := h1 i (by omega)
    rcases List.mem_cons.1 hy with rfl | hy
    · exact hxn
    · obtain ⟨m, hm, rfl⟩ := List.mem_iff_getElem.1 hy
      rw [List.length_drop] at hm
      rw [List.getElem_drop, ← key]
      exact Int.lt_trans hxn (h2 _ (by omega) (by omega))

/-- Of: all of them, each once, rising. -/
theorem ofL_some : ∀ (l s : List Int), Asc s → s.length + l.length ≤ 4096 → ∃ t, ofL s l = some t ∧ Asc t ∧ t.length ≤ s.length + l.length ∧ ∀ x, x ∈ t ↔ x ∈ s ∨ x ∈ l
  | [], s, hs, _ => ⟨s, rfl, hs, by simp, fun x => by simp⟩
  | n :: l, s, hs, hl => by
    rw [List.length_cons] at hl
    unfold ofL
    cases hf : findD s n s.length with
    | none =>
      obtain ⟨t, h1, h2, h3, h4⟩ := ofL_some l s hs (by omega)
      refine ⟨t, h1, h2, by rw [List.length_cons]; omega, fun x => ?_⟩
      rw [h4, List.mem_cons]
      have := findD_none (Nat.le_refl _) hf
      constructor
      · rintro (h | h)
        · exact .inl h
        · exact .inr (.inr h)
      · rintro (h | rfl | h)
        · exact .inl h
        · exact .inl this
        · exact .inr h
    | some j =>
      obtain ⟨a, b, c⟩ := findD_some hs (Nat.le_refl _) hf
      simp only
      rw [if_neg (by omega)]
      obtain ⟨t, h1, h2, h3, h4⟩ := ofL_some l (ins s j n) (asc_ins hs a b c) (by rw [ins_length]; omega)
      rw [ins_length] at h3
      refine ⟨t, h1, h2, by rw [List.length_cons]; omega, fun x => ?_⟩
      rw [h4, mem_ins, List.mem_cons]
      constructor
      · rintro ((h | h) | h)
        · exact .inr (.inl h)
        · exact .inl h
        · exact .inr (.inr h)
      · rintro (h | h | h)
        · exact .inl (.inr h)
        · exact .inl (.inl h)
        · exact .inr h
/-- What is in both. -/
def andL (s o : List Int) : List Int := s.filter fun x => o.contains x
theorem mem_andL {s o : List Int} {x : Int} : x ∈ andL s o ↔ x ∈ s ∧ x ∈ o := by simp [andL]
theorem asc_andL {s : List Int} (h : Asc s) (o : List Int) : Asc (andL s o) := h.sublist List.filter_sublist
end Go.Proofs.Ytolhhbnamldghaa.Set
