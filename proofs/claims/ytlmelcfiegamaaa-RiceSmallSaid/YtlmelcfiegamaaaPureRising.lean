/- What Rising makes of any small and far gaps: numbers that rise. -/
import Derived.Test.YtlmelcfiegamaaaPRiceSmallx2
import Derived.Test.YtlmelcfiegamaaaRiceAwk
namespace Go.Proofs.Ytlmelcfiegamaaa.Pure
open Go.RowKit Go.Proofs.Ytlmelcfiegamaaa.PRiceSmall Go.Proofs.YtlmelcfiegamaaaW.PrintWords Go.Proofs.YtlmelcfiegamaaaW.PrintLast Go.Proofs.YtlmelcfiegamaaaW.PrintMore Go.Proofs.Ytlmelcfiegamaaa.Rice Go.Proofs.Ytlmelcfiegamaaa.Wire Go.Proofs.Ytlmelcfiegamaaa.Bits

theorem rd_eq (R : List Int) (i : Nat) : rd R i = R.getD i 0 := by unfold rd; rw [Int.toNat_natCast]
theorem pow_cast (n : Nat) : ((2 : Int) ^ n) = ((2 ^ n : Nat) : Int) := by rw [Int.natCast_pow]; rfl
theorem shr_rng {x : Int} (h : 0 ≤ x ∧ x ≤ 18446744073709551615) (y : Int) : 0 ≤ shr .u64 x y ∧ shr .u64 x y ≤ 18446744073709551615 := by
  unfold shr
  rw [pow_cast]
  have hp : 0 < 2 ^ min y.toNat IntKind.u64.bits := Nat.pow_pos (by omega)
  generalize 2 ^ min y.toNat IntKind.u64.bits = q at *
  refine ⟨Int.ediv_nonneg h.1 (by omega), ?_⟩
  have := Int.ediv_le_self (b := (q : Int)) h.1
  omega
theorem u64w {x : Int} (h0 : 0 ≤ x) (h1 : x ≤ 18446744073709551615) : IntKind.u64.wrap x = x := by rw [Bit.wrap64]; omega
theorem wrap_rng (x : Int) : 0 ≤ IntKind.u64.wrap x ∧ IntKind.u64.wrap x ≤ 18446744073709551615 := by rw [Bit.wrap64]; omega
theorem tmod64 {x : Int} (h : 0 ≤ x) : 0 ≤ Int.tmod x 64 := Int.tmod_nonneg _ h

theorem getD_snoc (acc : List Int) (v : Int) (i : Nat) : (acc ++ [v]).getD i 0 = if i < acc.length then acc.getD i 0 else if i = acc.length then v else 0 := by
  simp only [List.getD_eq_getElem?_getD, List.getElem?_append]
  split
  · rfl
  · split
    · rename_i h1 h2; subst h2; simp
    · rw [List.getElem?_eq_none (by simp; omega)]; rfl
theorem rises_snoc {acc : List Int} {v : Int} (h : Rises acc) (hv : acc ≠ [] → acc.getD (acc.length - 1) 0 < v) : Rises (acc ++ [v]) := by
  intro i hi
  rw [List.length_append, List.length_singleton] at hi
  rw [getD_snoc, getD_snoc, if_pos (by omega)]
  split
  · exact h i (by omega)
  · rw [if_pos (by omega)]
    have := hv (by intro e; subst e; simp at hi)
    rwa [show acc.length - 1 = i by omega] at this
theorem u64s_snoc {acc : List Int} {v : Int} (h : U64s acc) (hv : 0 ≤ v ∧ v ≤ 18446744073709551615) : U64s (acc ++ [v]) := by
  intro x hx
  rcases List.mem_append.1 hx with hx | hx
  · exact h x hx
  · obtain rfl := List.mem_singleton.1 hx; exact hv

theorem rising_j1 (l1 l0 : List Int) (h1 : U64s l1) (acc : List Int) (last x9 : Int) (h9 : 0 ≤ x9 ∧ x9 ≤ 18446744073709551615) (i : Nat) (b : Bool) (hb : b = true → i < l1.length) (N I : Int) :
    ∃ y, (0 ≤ y ∧ y ≤ 18446744073709551615) ∧ ∀ k, herbariumlaw05_Rising.j1 (k + 1) l1 acc last i x9 l0 N I b = herbariumlaw05_Rising.j2 k l1 acc last i y l0 N I := by
  cases b with
  | false => exact ⟨x9, h9, fun k => by rw [herbariumlaw05_Rising.j1, if_neg (by decide)]⟩
  | true =>
    have hi := hb rfl
    refine ⟨_, ?_, fun k => by rw [herbariumlaw05_Rising.j1, if_pos rfl, if_pos (by omega), if_pos (by omega), if_pos (tmod64 (wrap_rng _).1)]⟩
    rw [rd_eq]
    exact shr_rng (h1.at hi) _

theorem rising_l0 (l1 l0 : List Int) (h1 : U64s l1) (h0 : ∀ x ∈ l0, 0 ≤ x ∧ x ≤ 65535) (hlen : l0.length ≤ 1000) : ∀ (n : Nat) (acc : List Int) (last : Int), acc.length + n = l0.length → Rises acc → U64s acc → (acc ≠ [] → acc.getD (acc.length - 1) 0 = last) → 0 ≤ last ∧ last ≤ 18446744073709551615 →
    ∃ L, herbariumlaw05_Rising.l0 (3 * n + 1) l1 acc last l0 l0.length acc.length = some L ∧ Rises L ∧ U64s L ∧ L.length ≤ l0.length
  | 0, acc, last, hn, hr, hu, hla, hl => ⟨acc, by rw [herbariumlaw05_Rising.l0, if_neg (by omega)], hr, hu, by omega⟩
  | n + 1, acc, last, hn, hr, hu, hla, hl => by
    have hx : 0 ≤ l0.getD acc.length 0 ∧ l0.getD acc.length 0 ≤ 65535 := h0 _ (by rw [List.getD_eq_getElem?_getD, List.getElem?_eq_getElem (by omega)]; exact List.getElem_mem _)
    have step : ∃ y, (0 ≤ y ∧ y ≤ 18446744073709551615) ∧ herbariumlaw05_Rising.l0 (3 * (n + 1) + 1) l1 acc last l0 l0.length acc.length = herbariumlaw05_Rising.j2 (3 * n + 1 + 1) l1 acc last acc.length y l0 l0.length acc.length := by
      rw [show 3 * (n + 1) + 1 = (3 * n + 1 + 1 + 1) + 1 by omega, herbariumlaw05_Rising.l0, if_pos (by omega), if_pos (by omega), if_pos (by omega), rd_eq]
      have h9 := wrap_rng (l0.getD acc.length 0)
      split
      · obtain ⟨y, hy, e⟩ := rising_j1 l1 l0 h1 acc last _ h9 acc.length (Int.tmod (rd l1 acc.length) 5 == 0) (fun _ => by omega) l0.length acc.length
        exact ⟨y, hy, e _⟩
      · obtain ⟨y, hy, e⟩ := rising_j1 l1 l0 h1 acc last _ h9 acc.length false (fun h => by cases h) l0.length acc.length
        exact ⟨y, hy, e _⟩
    obtain ⟨y, hy, e⟩ := step
    rw [e, herbariumlaw05_Rising.j2]
    have hw : wrap64 ((acc.length : Int) + 1) = ((acc.length + 1 : Nat) : Int) := by unfold wrap64; omega
    have fin : ∀ v : Int, 0 ≤ v ∧ v ≤ 18446744073709551615 → (acc ≠ [] → last < v) → ∃ L, herbariumlaw05_Rising.l0 (3 * n + 1) l1 (acc ++ [v]) v l0 l0.length (wrap64 ((acc.length : Int) + 1)) = some L ∧ Rises L ∧ U64s L ∧ L.length ≤ l0.length := by
      intro v hv hlv
      rw [hw, show acc.length + 1 = (acc ++ [v]).length by simp]
      refine rising_l0 l1 l0 h1 h0 hlen n (acc ++ [v]) v (by simp; omega) (rises_snoc hr (fun h => by rw [hla h]; exact hlv h)) (u64s_snoc hu hv) (fun _ => ?_) hv
      rw [getD_snoc]; simp
    split
    · split
      · exact ⟨acc, rfl, hr, hu, by omega⟩
      · rw [if_pos (by omega)]
        exact fin _ (wrap_rng _) (fun _ => by omega)
    · rw [if_pos (by omega)]
      rename_i h
      refine fin _ hy (fun hne => absurd (List.length_pos_iff.2 hne) (by omega))

theorem rising (l0 l1 : List Int) (h0 : ∀ x ∈ l0, (Lit.int .u16 x).wf = true) (h1 : ∀ x ∈ l1, (Lit.int .u64 x).wf = true) (hlen : l0.length ≤ 1000) : ∃ k L, herbariumlaw05_Rising.f k l0 l1 = some L ∧ Rises L ∧ U64s L ∧ L.length ≤ l0.length := by
  have h0' : ∀ x ∈ l0, 0 ≤ x ∧ x ≤ 65535 := fun x hx => by have := h0 x hx; simp [Lit.wf, IntKind.min, IntKind.max, IntKind.signed, IntKind.bits] at this; omega
  have h1' : U64s l1 := fun x hx => by have := h1 x hx; simp [Lit.wf, IntKind.min, IntKind.max, IntKind.signed, IntKind.bits] at this; omega
  obtain ⟨L, h, r⟩ := rising_l0 l1 l0 h1' h0' hlen l0.length [] 0 (by simp) (fun i hi => by simp at hi) (fun x hx => by simp at hx) (fun h => absurd rfl h) (by omega)
  exact ⟨_, L, h, r⟩

theorem gaps_take (l : List Int) (c : Nat) : gaps (l.take c) = (gaps l).take c := by
  apply List.ext_getElem
  · simp [gaps_length]
  · intro i h1 h2
    rw [gaps_length, List.length_take] at h1
    have e1 := gaps_at (l.take c) (i := i) (by rw [List.length_take]; omega)
    have e2 := gaps_at l (i := i) (by omega)
    rw [List.getElem_take, e2]
    rw [e1]
    unfold gapN
    simp only [List.getD_eq_getElem?_getD, List.getElem?_take]
    split
    · rename_i h; subst h; rw [if_pos (by omega)]
    · rw [if_pos (by omega), if_pos (by omega)]
theorem rises_take {l : List Int} (h : Rises l) (c : Nat) : Rises (l.take c) := by
  intro i hi
  rw [List.length_take] at hi
  have := h i (by omega)
  simpa [List.getD_eq_getElem?_getD, List.getElem?_take, show i < c by omega, show i + 1 < c by omega] using this
theorem u64s_take {l : List Int} (h : U64s l) (c : Nat) : U64s (l.take c) := fun x hx => h x (List.mem_of_mem_take hx)
theorem all_u64s {l : List Int} (h : U64s l) : (l.all fun x => decide (0 ≤ x ∧ x ≤ 18446744073709551615)) = true := by
  rw [List.all_eq_true]; intro x hx; simpa using h x hx
theorem put_f {l : List Int} (h : Rises l) (hu : U64s l) (hl : l.length ≤ 4096) : rice_Put.f l = some (riceB (gaps l), 0) := by
  unfold rice_Put.f
  rw [if_pos ⟨all_u64s hu, hl, checkR_ok hl h⟩]
end Go.Proofs.Ytlmelcfiegamaaa.Pure
