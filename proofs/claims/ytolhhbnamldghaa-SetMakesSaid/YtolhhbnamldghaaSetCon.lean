/- Contracts of set's Or, Has and of the law's Of, in plain lists, out of the printed ones. -/
import Derived.Test.YtolhhbnamldghaaPureSetG
import Derived.Test.YtolhhbnamldghaaSetChk
import Derived.Test.YtolhhbnamldghaaKd
namespace Go.Proofs.Ytolhhbnamldghaa.Set
open Go.RowKit Go.Proofs.Ytolhhbnamldghaa.Own Go.Proofs.Ytolhhbnamldghaa.Rely Go.Proofs.Ytolhhbnamldghaa.PSetBoth Go.Proofs.YtolhhbnamldghaaW.PrintWords Go.Proofs.YtolhhbnamldghaaW.PrintLast Go.Proofs.YtolhhbnamldghaaW.PrintMore Go.Proofs.Ytolhhbnamldghaa.PureB

theorem reads_same {w W' : World} {k : IntKind} {A : Option Addr} {xs : List Int} (h : Reads w k A xs) (hb : ∀ q, q < w.heap.size → W'.heap[q]? = w.heap[q]?) : Reads W' k A xs := by
  intro i hi
  obtain ⟨b, o, e, hlt, hc⟩ := h i hi
  have hbb := hb b hlt
  refine ⟨b, o, e, heap_lt hbb hlt, ?_⟩
  unfold World.cell? at hc ⊢
  simp only at hc ⊢
  rw [hbb]
  exact hc
theorem F_of_reads {w : World} {k : IntKind} {A : Option Addr} {xs : List Int} (hl : xs.length ≤ 9223372036854775807) (h : Reads w k A xs) : Kd.F (Kd.int k) w (fun _ => True) A xs.length xs :=
  fun _ hW => KdX.C_of_reads hl (reads_same h fun q hq => hW q trivial hq)
/-- A row that was made: how it is read. -/
theorem made_reads {w w' : World} {e base : Nat} {ok : Nat → Prop} {v : Value} {xs : List Int} (h : Kd.R (Kd.int .u32) e w' base ok v xs) : ∃ A c, v = .slice A xs.length c ∧ xs.length ≤ c ∧ Reads w' .u32 A xs := by
  have ho := KdX.row_of_R h
  obtain ⟨A, c, rfl⟩ : ∃ A c, v = .slice A xs.length c := by
    rcases ho.2 with ⟨rfl, hn⟩ | ⟨g, cap, cur, rfl, _⟩
    · exact ⟨none, 0, by rw [hn]⟩
    · exact ⟨_, cap, rfl⟩
  obtain ⟨h1, h2, h3⟩ := Kd.R_reads' h
  exact ⟨A, c, rfl, h2, KdX.reads_of_C h3⟩
theorem or_c (A B : Option Addr) (c d : Nat) (s o : List Int) (w : World) (hr : Reads w .u32 A s) (hr' : Reads w .u32 B o) (hl : s.length ≤ 200) (hl' : o.length ≤ 200) (hc : s.length ≤ c) (hd : o.length ≤ d) :
    Calls Try.prog 32 #[.slice A s.length c, .slice B o.length d] w fun e w' => ∃ A' c', e = .returned (.slice A' (orL s o).length c') ∧ (orL s o).length ≤ c' ∧ Reads w' .u32 A' (orL s o) ∧ Ext w w' := by
  refine (set_Set_Or.calls 801 (fun _ => True) A c s (fun _ => True) B d o (orL s o) w (Kd.V_mk hc (F_of_reads (by omega) hr)) (Kd.V_mk hd (F_of_reads (by omega) hr')) (or_f s o hl hl' (Nat.le_refl _))).mono ?_
  rintro e w' ⟨v, rfl, hR, hb⟩
  obtain ⟨A', c', rfl, h1, h2⟩ := made_reads (w := w) hR
  exact ⟨A', c', rfl, h1, h2, hb⟩
theorem and_cc (A B : Option Addr) (c d : Nat) (s o : List Int) (w : World) (hr : Reads w .u32 A s) (hr' : Reads w .u32 B o) (hl : s.length ≤ 200) (hl' : o.length ≤ 200) (hd : o.length ≤ d) (hs : Asc s) (ho : Asc o) :
    Calls Try.prog 31 #[.slice A s.length c, .slice B o.length d] w fun e w' => ∃ A' c', e = .returned (.slice A' (andL s o).length c') ∧ (andL s o).length ≤ c' ∧ Reads w' .u32 A' (andL s o) ∧ Ext w w' := by
  refine (and_c A B c d s o w hr hr' (by omega) (by omega) hd hs ho).mono ?_
  rintro e w' ⟨A', c', S', rfl, hrow, hst⟩
  obtain ⟨A9, c9, e9, h1, h2, _⟩ := hrow.reads
  injection e9 with e91 _ e93
  subst e91 e93
  exact ⟨_, _, rfl, h1, h2, hst.keep.below (Nat.le_refl _) (fun _ _ x => x)⟩
theorem lawof_c (A : Option Addr) (c : Nat) (l : List Int) (b : Bool) (w : World) (hr : Reads w .u32 A l) (hl : l.length ≤ 100) (hc : l.length ≤ c) :
    Calls Try.prog 24 #[.slice A l.length c, .bool b] w fun e w' => ∃ t A' c', e = .returned (.tuple #[.slice A' t.length c', .int .i64 0]) ∧ Asc t ∧ t.length ≤ l.length ∧ (∀ x, x ∈ t ↔ x ∈ fewL b l) ∧ t.length ≤ c' ∧ Reads w' .u32 A' t ∧ Ext w w' := by
  obtain ⟨t, h1, h2, h3, h4⟩ := law_of b l hl (k := 101) (Nat.le_refl _)
  refine (herbariumlaw11_Of.calls 101 A c l b t 0 w (KdX.C_of_reads (by omega) hr) hc h1).mono ?_
  rintro e w' ⟨v, rfl, hR, hb⟩
  obtain ⟨A', c', rfl, h5, h6⟩ := made_reads (w := w) hR
  exact ⟨t, A', c', rfl, h2, h3, h4, h5, h6, hb⟩

/-! ### Has -/
theorem rd_nat (s : List Int) (i : Nat) : rd s (i : Int) = s.getD i 0 := rfl
theorem mem_getD {s : List Int} {x : Int} : x ∈ s ↔ ∃ i, i < s.length ∧ s.getD i 0 = x := by
  constructor
  · intro h
    obtain ⟨i, hi, e⟩ := List.getElem_of_mem h
    exact ⟨i, hi, by simp [List.getD_eq_getElem?_getD, hi, e]⟩
  · rintro ⟨i, hi, rfl⟩
    simp [List.getD_eq_getElem?_getD, hi]
theorem has_l {s : List Int} (hs : Asc s) (hl : s.length ≤ 1000000) (x : Int) : ∀ (n lo hi k : Nat), hi - lo ≤ n → lo ≤ hi → hi ≤ s.length → n < k → (∀ i, i < lo → s.getD i 0 < x) → (∀ i, hi ≤ i → i < s.length → x ≤ s.getD i 0) →
    set_Set_Has.l0 k s x lo hi = some (s.contains x) := by
  have fin : ∀ (lo k : Nat), lo ≤ s.length → (∀ i, i < lo → s.getD i 0 < x) → (∀ i, lo ≤ i → i < s.length → x ≤ s.getD i 0) → set_Set_Has.l0 (k + 1) s x lo lo = some (s.contains x) := by
    intro lo k hlo h1 h2
    rw [set_Set_Has.l0, if_neg (by omega)]
    by_cases hlt : lo < s.length
    · rw [if_pos (by omega), if_pos (by omega), rd_nat]
      congr 1
      by_cases he : s.getD lo 0 = x
      · rw [he]
        have : x ∈ s := mem_getD.2 ⟨lo, hlt, he⟩
        simp [this]
      · have hn : ¬ x ∈ s := by
          intro hm
          obtain ⟨i, hi, e⟩ := mem_getD.1 hm
          rcases Nat.lt_trichotomy i lo with q | q | q
          · have := h1 i q; omega
          · subst q; exact he e
          · have := asc_getD hs q hi
            have := h2 lo (Nat.le_refl _) hlt
            omega
        have hb : (s.getD lo 0 == x) = false := by simpa using he
        rw [hb]
        simp [hn]
    · rw [if_neg (by omega)]
      congr 1
      have hn : ¬ x ∈ s := by
        intro hm
        obtain ⟨i, hi, e⟩ := mem_getD.1 hm
        have := h1 i (by omega); omega
      simp [hn]
  intro n
  induction n with
  | zero =>
    intro lo hi k h1 h2 h3 hk h4 h5
    obtain rfl : hi = lo := by omega
    obtain ⟨k, rfl⟩ : ∃ q, k = q + 1 := ⟨k - 1, by omega⟩
    exact fin _ _ h3 h4 h5
  | succ n ih =>
    intro lo hi k h1 h2 h3 hk h4 h5
    obtain ⟨k, rfl⟩ : ∃ q, k = q + 1 := ⟨k - 1, by omega⟩
    by_cases he : hi = lo
    · subst he; exact fin _ _ h3 h4 h5
    obtain ⟨m, hm⟩ : ∃ m, (lo + hi) / 2 = m := ⟨_, rfl⟩
    have p0 : (lo : Int) < (hi : Int) := by omega
    have p1 : (0 : Int) ≤ (m : Int) := by omega
    have p2 : (m : Int) < (s.length : Int) := by omega
    have w1 : wrap64 ((lo : Int) + (hi : Int)) = ((lo + hi : Nat) : Int) := by unfold wrap64; omega
    have w2 : Int.tdiv ((lo + hi : Nat) : Int) 2 = (((lo + hi) / 2 : Nat) : Int) := by rw [Int.tdiv_eq_ediv_of_nonneg (by omega)]; rfl
    rw [hm] at w2
    rw [set_Set_Has.l0, if_pos p0, w1, w2]
    clear w1 w2
    have w3 : wrap64 (m : Int) = (m : Int) := by unfold wrap64; omega
    rw [w3, if_pos p1, if_pos p2, rd_nat]
    clear w3
    have w4 : wrap64 ((m : Int) + 1) = ((m + 1 : Nat) : Int) := by unfold wrap64; omega
    rw [w4]
    clear w4
    by_cases hx : s.getD m 0 < x
    · rw [if_pos hx]
      refine ih (m + 1) hi k (by omega) (by omega) h3 (by omega) (fun i hi' => ?_) h5
      rcases Nat.lt_or_ge i m with q | q
      · have := asc_getD hs q (by omega); omega
      · obtain rfl : i = m := by omega
        exact hx
    · rw [if_neg hx]
      refine ih lo m k (by omega) (by omega) (by omega) (by omega) h4 (fun i hi' hil => ?_)
      rcases Nat.lt_or_ge m i with q | q
      · have := asc_getD hs q hil; omega
      · obtain rfl : i = m := by omega
        omega
theorem has_c (A : Option Addr) (c : Nat) (s : List Int) (x : Int) (w : World) (hr : Reads w .u32 A s) (hl : s.length ≤ 1000000) (hc : s.length ≤ c) (hs : Asc s) :
    Calls Try.prog 25 #[.slice A s.length c, .int .u32 x] w fun e w' => e = .returned (.bool (s.contains x)) ∧ Ext w w' := by
  refine (set_Set_Has.calls (s.length + 1) A c s x _ w (KdX.C_of_reads (by omega) hr) hc (has_l hs hl x s.length 0 s.length (s.length + 1) (by omega) (by omega) (Nat.le_refl _) (by omega) (fun i hi => absurd hi (Nat.not_lt_zero i)) (fun i h1 h2 => absurd h2 (by omega)))).mono ?_
  rintro e w' ⟨rfl, h⟩
  exact ⟨rfl, h.below⟩
end Go.Proofs.Ytolhhbnamldghaa.Set
