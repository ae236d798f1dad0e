/- What models compute, in plain lists: counts, their sum, where a symbol's part begins, whose part a place belongs to, what is seen. -/
import Derived.Test.YtoijcblldeahiaaOwnB
namespace Go.Proofs.Ytoijcblldeahiaa.Model

/-- How much each symbol counts, after one came. -/
def plusM (cs : List Int) (s : Nat) : List Int := cs.set s (cs.getD s 0 + 24)
def halfM (cs : List Int) : List Int := cs.map fun n => (n + 1) / 2
def seeM (cs : List Int) (s : Nat) : List Int := if (plusM cs s).sum ≤ 4096 then plusM cs s else halfM (plusM cs s)
/-- The symbol to whose part a place belongs. -/
def findG : List Int → Int → Nat → Nat
  | [], _, k => k
  | c :: cs, p, k => if c ≤ p then findG cs (p - c) (k + 1) else k
def startM (cs : List Int) (s : Nat) : Int := (cs.take s).sum
structure WfM (cs : List Int) : Prop where
  pos : ∀ x ∈ cs, 1 ≤ x
  all : cs.sum ≤ 4096
  le : cs.length ≤ 64
  lt : 0 < cs.length
theorem getD_mem {cs : List Int} {s : Nat} (h : s < cs.length) : cs.getD s 0 ∈ cs := by
  rw [List.getD_eq_getElem?_getD, List.getElem?_eq_getElem h]; exact List.getElem_mem h
theorem take_succ_sum {cs : List Int} {s : Nat} (h : s < cs.length) : startM cs (s + 1) = startM cs s + cs.getD s 0 := by
  unfold startM
  rw [List.getD_eq_getElem?_getD, List.getElem?_eq_getElem h, List.take_succ_eq_append_getElem h, List.sum_append]
  simp
theorem sum_take_drop (cs : List Int) (s : Nat) : startM cs s + (cs.drop s).sum = cs.sum := by
  unfold startM
  rw [← List.sum_append, List.take_append_drop]
theorem sum_pos {cs : List Int} (h : ∀ x ∈ cs, 1 ≤ x) : (cs.length : Int) ≤ cs.sum := by
  induction cs with
  | nil => simp
  | cons a t ih =>
    have h1 := h a (by simp)
    have h2 := ih (fun x hx => h x (by simp [hx]))
    simp only [List.length_cons, List.sum_cons]; omega
theorem start_mono {cs : List Int} (h : ∀ x ∈ cs, 1 ≤ x) {i j : Nat} (hij : i ≤ j) : startM cs i ≤ startM cs j := by
  obtain ⟨d, rfl⟩ : ∃ d, j = i + d := ⟨j - i, by omega⟩
  induction d with
  | zero => exact Int.le_refl _
  | succ d ih =>
    refine Int.le_trans (ih (by omega)) ?_
    by_cases hl : i + d < cs.length
    · rw [show i + (d + 1) = i + d + 1 by omega, take_succ_sum hl]
      have := h _ (getD_mem hl)
      omega
    · unfold startM
      rw [List.take_of_length_le (by omega), List.take_of_length_le (by omega)]
      exact Int.le_refl _
theorem start_le {cs : List Int} (h : ∀ x ∈ cs, 1 ≤ x) (i : Nat) : startM cs i ≤ cs.sum := by
  have h1 := sum_take_drop cs i
  have h2 := sum_pos (cs := cs.drop i) (fun x hx => h x (List.mem_of_mem_drop hx))
  omega
theorem start_pos {cs : List Int} (h : ∀ x ∈ cs, 1 ≤ x) (i : Nat) : 0 ≤ startM cs i := by
  have := sum_pos (cs := cs.take i) (fun x hx => h x (List.mem_of_mem_take hx))
  unfold startM; omega
theorem count_le {cs : List Int} (h : ∀ x ∈ cs, 1 ≤ x) {i : Nat} (hi : i < cs.length) : startM cs i + cs.getD i 0 ≤ cs.sum := by
  rw [← take_succ_sum hi]; exact start_le h _
theorem sum_set {cs : List Int} {s : Nat} (h : s < cs.length) (v : Int) : (cs.set s v).sum = cs.sum - cs.getD s 0 + v := by
  induction cs generalizing s with
  | nil => simp at h
  | cons a t ih =>
    cases s with
    | zero => simp; omega
    | succ s =>
      have := ih (s := s) (by simpa using h)
      simp only [List.set_cons_succ, List.sum_cons, List.getD_cons_succ]; omega
theorem plus_sum {cs : List Int} {s : Nat} (h : s < cs.length) : (plusM cs s).sum = cs.sum + 24 := by
  unfold plusM; rw [sum_set h]; omega
theorem half_sum (cs : List Int) (h : ∀ x ∈ cs, 1 ≤ x) : 2 * (halfM cs).sum ≤ cs.sum + cs.length := by
  induction cs with
  | nil => simp [halfM]
  | cons a t ih =>
    have := ih (fun x hx => h x (by simp [hx]))
    simp only [halfM, List.map_cons, List.sum_cons, List.length_cons] at *
    omega
theorem plus_wf {cs : List Int} (h : WfM cs) {s : Nat} (hs : s < cs.length) : (∀ x ∈ plusM cs s, 1 ≤ x) ∧ (plusM cs s).sum ≤ 4120 ∧ (plusM cs s).length = cs.length := by
  refine ⟨fun x hx => ?_, by rw [plus_sum hs]; have := h.all; omega, by unfold plusM; simp⟩
  unfold plusM at hx
  rcases List.mem_or_eq_of_mem_set hx with h1 | rfl
  · exact h.pos x h1
  · have := h.pos _ (getD_mem hs); omega
theorem see_wf {cs : List Int} (h : WfM cs) {s : Nat} (hs : s < cs.length) : WfM (seeM cs s) ∧ (seeM cs s).length = cs.length := by
  obtain ⟨a, b, c⟩ := plus_wf h hs
  unfold seeM
  split
  · rename_i hq
    exact ⟨⟨a, hq, by rw [c]; exact h.le, by rw [c]; exact h.lt⟩, c⟩
  · have h1 := half_sum _ a
    have hl := h.le
    have hl' : (halfM (plusM cs s)).length = cs.length := by unfold halfM; rw [List.length_map, c]
    refine ⟨⟨fun x hx => ?_, by rw [c] at h1; omega, by omega, by have := h.lt; omega⟩, hl'⟩
    obtain ⟨y, hy, rfl⟩ := List.mem_map.1 hx
    have := a y hy
    omega
/-- The place of a symbol is found. -/
theorem find_uniq : ∀ (cs : List Int) (p : Int) (k s : Nat), s < cs.length → (∀ x ∈ cs, 1 ≤ x) → startM cs s ≤ p → p < startM cs s + cs.getD s 0 → findG cs p k = k + s
  | [], _, _, s, h, _, _, _ => absurd h (Nat.not_lt_zero s)
  | c :: cs, p, k, 0, _, _, h1, h2 => by
    unfold findG
    rw [if_neg]
    · rfl
    · simp [startM] at h1 h2; omega
  | c :: cs, p, k, s + 1, h, hp, h1, h2 => by
    have h0 : startM (c :: cs) (s + 1) = c + startM cs s := by simp [startM]
    rw [h0] at h1 h2
    have hs := start_pos (cs := cs) (fun x hx => hp x (by simp [hx])) s
    unfold findG
    rw [if_pos (by omega), find_uniq cs (p - c) (k + 1) s (by simpa using h) (fun x hx => hp x (by simp [hx])) (by omega) (by rw [List.getD_cons_succ] at h2; omega)]
    omega
theorem find_spec : ∀ (cs : List Int) (p : Int) (k : Nat), (∀ x ∈ cs, 1 ≤ x) → 0 ≤ p → p < cs.sum → ∃ s, findG cs p k = k + s ∧ s < cs.length ∧ startM cs s ≤ p ∧ p < startM cs s + cs.getD s 0
  | [], p, _, _, h0, h1 => by simp at h1; omega
  | c :: cs, p, k, hp, h0, h1 => by
    unfold findG
    split
    · rename_i hc
      obtain ⟨s, a, b, d, e⟩ := find_spec cs (p - c) (k + 1) (fun x hx => hp x (by simp [hx])) (by omega) (by rw [List.sum_cons] at h1; omega)
      refine ⟨s + 1, by omega, by simpa using b, ?_, ?_⟩
      · simp [startM] at *; omega
      · rw [List.getD_cons_succ]; simp [startM] at *; omega
    · exact ⟨0, rfl, by simp, by simp [startM]; exact h0, by simp [startM]; omega⟩
theorem new_wf {n : Nat} (h0 : 0 < n) (h : n ≤ 64) : WfM (List.replicate n 1) ∧ (List.replicate n (1 : Int)).sum = n := by
  have hs : (List.replicate n (1 : Int)).sum = n := by
    clear h0 h
    induction n with
    | zero => rfl
    | succ n ih => rw [List.replicate_succ, List.sum_cons, ih]; omega
  exact ⟨⟨fun x hx => by rw [List.eq_of_mem_replicate hx]; omega, by rw [hs]; omega, by simpa using h, by simpa using h0⟩, hs⟩
/-- The first ones halved. -/
def mixM (cs : List Int) (k : Nat) : List Int := (halfM cs).take k ++ cs.drop k
theorem half_len (cs : List Int) : (halfM cs).length = cs.length := by unfold halfM; simp
theorem mix_len (cs : List Int) {k : Nat} (h : k ≤ cs.length) : (mixM cs k).length = cs.length := by
  unfold mixM; simp [half_len]; omega
theorem mix_zero (cs : List Int) : mixM cs 0 = cs := by simp [mixM]
theorem mix_end (cs : List Int) : mixM cs cs.length = halfM cs := by
  unfold mixM
  rw [List.drop_length, List.append_nil, List.take_of_length_le (by rw [half_len]; exact Nat.le_refl _)]
theorem mix_at (cs : List Int) {k : Nat} (h : k < cs.length) : (mixM cs k).getD k 0 = cs.getD k 0 := by
  unfold mixM
  rw [List.getD_eq_getElem?_getD, List.getElem?_append_right (by rw [List.length_take]; exact Nat.min_le_left _ _), List.getD_eq_getElem?_getD]
  simp [half_len, show min k cs.length = k by omega]
theorem mix_set (cs : List Int) {k : Nat} (h : k < cs.length) : (mixM cs k).set k ((cs.getD k 0 + 1) / 2) = mixM cs (k + 1) := by
  have hl : ((halfM cs).take k).length = k := by rw [List.length_take, half_len]; omega
  unfold mixM
  rw [List.set_append_right _ _ (by omega), hl, Nat.sub_self, List.drop_eq_getElem_cons h, List.set_cons_zero, List.take_succ_eq_append_getElem (by rw [half_len]; exact h), List.append_assoc]
  have : (halfM cs)[k]'(by rw [half_len]; exact h) = (cs.getD k 0 + 1) / 2 := by
    unfold halfM; rw [List.getElem_map, List.getD_eq_getElem?_getD, List.getElem?_eq_getElem h]; rfl
  rw [this]; rfl
theorem half_at (cs : List Int) {k : Nat} (h : k < cs.length) : (halfM cs).getD k 0 = (cs.getD k 0 + 1) / 2 := by
  unfold halfM
  rw [List.getD_eq_getElem?_getD, List.getElem?_map, List.getElem?_eq_getElem h, List.getD_eq_getElem?_getD, List.getElem?_eq_getElem h]; rfl
theorem mix_done (cs : List Int) {k : Nat} (h : k < cs.length) : (mixM cs (k + 1)).getD k 0 = (halfM cs).getD k 0 := by
  unfold mixM
  rw [List.getD_eq_getElem?_getD, List.getElem?_append_left (by rw [List.length_take, half_len]; omega), List.getElem?_take, if_pos (by omega), List.getD_eq_getElem?_getD]
theorem half_pos {cs : List Int} (h : ∀ x ∈ cs, 1 ≤ x) : ∀ x ∈ halfM cs, 1 ≤ x := by
  intro x hx
  obtain ⟨y, hy, rfl⟩ := List.mem_map.1 hx
  have := h y hy; omega
end Go.Proofs.Ytoijcblldeahiaa.Model
