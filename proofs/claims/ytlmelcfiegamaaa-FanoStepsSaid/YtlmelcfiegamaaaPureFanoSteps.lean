/- P6.1, without the document's answer: a number added to all doesn't turn which is the first above one; all alike are all the same: at every input. -/
import Derived.Test.YtlmelcfiegamaaaPFanoStepsx2
import Derived.Test.YtlmelcfiegamaaaFanoR
namespace Go.Proofs.Ytlmelcfiegamaaa.Pure
open Go.RowKit Go.Proofs.Ytlmelcfiegamaaa.PFanoSteps Go.Proofs.YtlmelcfiegamaaaW.PrintWords Go.Proofs.YtlmelcfiegamaaaW.PrintLast Go.Proofs.YtlmelcfiegamaaaW.PrintMore Go.Proofs.Ytlmelcfiegamaaa.Fano Go.Proofs.Ytlmelcfiegamaaa.Bits

theorem of_f {l : List Int} (hn : NF l) (hu : U32s l) (hl : l.length ≤ 4096) : fano_Of.f l = some ((l.length : Int), (lastN l : Int), (lowF l : Int), lowsF l, highF l, 0) := if_pos ((nfB_iff l).2 ⟨hn, hu, hl⟩)
theorem from_f {l : List Int} (hn : NF l) (hu : U32s l) (hl : l.length ≤ 4096) (m : Int) : fano_Row_From.f l.length (lastN l) (lowF l) (lowsF l) (highF l) m = some (fromR l m) := by
  unfold fano_Row_From.f; rw [rowOf_eq hn hu hl]; rfl
theorem sel_f {l : List Int} (hn : NF l) (hu : U32s l) (hl : l.length ≤ 4096) (i : Int) (hi : -9223372036854775808 ≤ i ∧ i ≤ 9223372036854775807) : fano_Row_Select.f l.length (lastN l) (lowF l) (lowsF l) (highF l) i = some (selR l i) := by
  unfold fano_Row_Select.f; rw [if_pos hi, rowOf_eq hn hu hl]; rfl
theorem slow_f {l0 : List Int} (h0 : ∀ x ∈ l0, (Lit.int .u16 x).wf = true) (hl0 : l0.length ≤ 60) : herbariumlaw06_Slow.f l0 [] = some (slowL l0 []) := by
  unfold herbariumlaw06_Slow.f
  refine if_pos ⟨?_, rfl, by omega, by simp⟩
  rw [List.all_eq_true]; intro x hx; have := h0 x hx; simpa [Lit.wf, IntKind.min, IntKind.max, IntKind.signed, IntKind.bits] using this
theorem slow_le : ∀ (gs : List Int) (i : Nat) (last : Int), (∀ g ∈ gs, 0 ≤ g ∧ g ≤ 65535) → 0 ≤ last → ∀ x ∈ slowG [] gs i last, x ≤ last + 300 * gs.length
  | [], _, _, _, _, x, hx => by simp [slowG] at hx
  | g :: gs, i, last, hg, h0, x, hx => by
    unfold slowG at hx
    have hs : slowN [] i last g ≤ last + 300 := by
      have h1 := Int.tmod_nonneg 300 (hg g (by simp)).1
      have h2 := Int.tmod_lt_of_pos g (show (0 : Int) < 300 by omega)
      unfold slowN
      rw [if_neg (by rintro ⟨h, _⟩; simp at h)]
      omega
    split at hx
    · simp at hx
    · rename_i hc
      rw [List.length_cons]
      rcases List.mem_cons.1 hx with rfl | hx
      · omega
      · have := slow_le gs (i + 1) (slowN [] i last g) (fun y hy => hg y (by simp [hy])) (slowN_range _ _ _ _).1 x hx
        omega
theorem nf_rep (n : Nat) (a : Int) : NF (List.replicate n a) := by
  intro i hi
  rw [List.length_replicate] at hi
  simp [List.getD_eq_getElem?_getD, List.getElem?_replicate, show i < n by omega, hi]
theorem u_rep (n : Nat) {a : Int} (h : 0 ≤ a ∧ a ≤ 4294967295) : U32s (List.replicate n a) := fun x hx => by
  obtain rfl := (List.mem_replicate.1 hx).2; exact h
theorem l2_ok (n : Nat) (hn : n ≤ 39) (a : Int) (ha : 0 ≤ a ∧ a ≤ 4294967295) : ∀ f i, i + f = n → herbariumlaw06_FanoSteps.l2 (f + 1) a (List.replicate n a) 0 n i n (lastN (List.replicate n a)) (lowF (List.replicate n a)) (lowsF (List.replicate n a)) (highF (List.replicate n a)) = some true
  | 0, i, h => by
    obtain rfl : i = n := by omega
    unfold herbariumlaw06_FanoSteps.l2
    rw [if_neg (by omega), if_pos rfl]
    show some (((i : Int)) == ((List.replicate i a).length : Int)) = some true
    rw [List.length_replicate]; simp
  | f + 1, i, h => by
    have hs := sel_f (nf_rep n a) (u_rep n ha) (by rw [List.length_replicate]; omega) i (by omega)
    rw [List.length_replicate] at hs
    have hv : selR (List.replicate n a) i = (a, true) := by
      unfold selR
      rw [List.length_replicate, if_pos (by omega), Int.toNat_natCast]
      unfold val
      simp [List.getD_eq_getElem?_getD, List.getElem?_replicate, show i < n by omega]
      omega
    unfold herbariumlaw06_FanoSteps.l2
    rw [if_pos (by omega), hs, Option.bind_some, hv]
    dsimp only
    rw [if_pos rfl, if_pos rfl, show wrap64 ((i : Int) + 1) = ((i + 1 : Nat) : Int) by unfold wrap64; omega]
    exact l2_ok n hn a ha f (i + 1) (by omega)
theorem l1_ok (n : Nat) (hn : n ≤ 39) (a : Int) (ha : 0 ≤ a ∧ a ≤ 4294967295) : ∀ f i, i + f = n → herbariumlaw06_FanoSteps.l1 (f + (n + 1) + 1) a (List.replicate i a) n i = some true
  | 0, i, h => by
    obtain rfl : i = n := by omega
    unfold herbariumlaw06_FanoSteps.l1
    rw [if_neg (by omega), of_f (nf_rep i a) (u_rep i ha) (by rw [List.length_replicate]; omega), Option.bind_some]
    dsimp only
    rw [List.length_replicate, Nat.zero_add]
    exact l2_ok i hn a ha i 0 (by omega)
  | f + 1, i, h => by
    rw [show f + 1 + (n + 1) + 1 = (f + (n + 1) + 1) + 1 by omega]
    unfold herbariumlaw06_FanoSteps.l1
    rw [if_pos (by omega), if_pos (by rw [List.length_replicate]; omega), show ((i : Int) + 1) % 256 = ((i + 1 : Nat) : Int) by omega, show List.replicate i a ++ [a] = List.replicate (i + 1) a by rw [List.replicate_succ']]
    exact l1_ok n hn a ha f (i + 1) (by omega)
theorem val_map {l : List Int} (hu : U32s l) {b : Int} (hb : 0 ≤ b) {i : Nat} (hi : i < l.length) : (val (l.map (· + b)) i : Int) = val l i + b := by
  have := hu.at hi
  unfold val
  simp only [List.getD_eq_getElem?_getD, List.getElem?_map, List.getElem?_eq_getElem hi, Option.map_some, Option.getD_some] at this ⊢
  omega
theorem nf_map {l : List Int} (hn : NF l) (b : Int) : NF (l.map (· + b)) := by
  intro i hi
  rw [List.length_map] at hi
  have := hn i hi
  simp only [List.getD_eq_getElem?_getD, List.getElem?_map, List.getElem?_eq_getElem hi, List.getElem?_eq_getElem (show i < l.length by omega), Option.map_some, Option.getD_some] at this ⊢
  omega
theorem from_map {l : List Int} (hu : U32s l) {b m : Int} (hb : 0 ≤ b) : fromN (l.map (· + b)) (m + b) = fromN l m := by
  obtain ⟨f1, f2, f3⟩ := fromN_spec l m
  refine fromN_uniq (by rw [List.length_map]; exact f1) (fun j hj => ?_) (fun h => ?_)
  · rw [val_map hu hb (by omega)]; have := f2 j hj; omega
  · rw [List.length_map] at h
    rw [val_map hu hb h]; have := f3 h; omega
theorem take_snoc {l : List Int} {i : Nat} (hi : i < l.length) : l.take (i + 1) = l.take i ++ [rd l i] := by
  rw [List.take_succ_eq_append_getElem hi]; simp [rd, hi]
theorem l0_ok (L : List Int) (hL : L.length ≤ 60) (hn : NF L) (hu : U32s L) (hs : ∀ x ∈ L, x ≤ 18000) (b m a n4 : Int) (n : Nat) (hn4 : Int.tmod n4 40 = n) (h39 : n ≤ 39) (hb : 0 ≤ b ∧ b ≤ 65535) (hm : 0 ≤ m ∧ m ≤ 65535) (ha : 0 ≤ a ∧ a ≤ 4294967295) :
    ∀ f i, i + f = L.length → herbariumlaw06_FanoSteps.l0 (f + (2 * n + 3) + 1) b m a n4 L ((L.take i).map (· + b)) L L.length i = some true
  | 0, i, h => by
    obtain rfl : i = L.length := by omega
    have hM : NF (L.map (· + b)) := nf_map hn b
    have hMu : U32s (L.map (· + b)) := fun x hx => by
      obtain ⟨y, hy, rfl⟩ := List.mem_map.1 hx
      have := hu y hy; have := hs y hy; omega
    have hMl : (L.map (· + b)).length ≤ 4096 := by rw [List.length_map]; omega
    have hb1 : b % 4294967296 = b := by omega
    have hm1 : m % 4294967296 = m := by omega
    have hmb : (m + b) % 4294967296 = m + b := by omega
    unfold herbariumlaw06_FanoSteps.l0
    rw [if_neg (by omega), List.take_length, of_f hn hu (by omega), Option.bind_some, of_f hM hMu hMl, Option.bind_some]
    dsimp only
    rw [hb1, hm1, hmb, from_f hn hu (by omega), Option.bind_some, from_f hM hMu hMl, Option.bind_some]
    rw [if_pos rfl, if_pos rfl]
    have key : herbariumlaw06_FanoSteps.j1 (0 + (2 * n + 3)) a n4 false = some true := by
      rw [show 0 + (2 * n + 3) = (n + (n + 1) + 1) + 1 by omega]
      unfold herbariumlaw06_FanoSteps.j1
      dsimp only
      rw [if_neg (by decide), hn4]
      exact l1_ok n h39 a ha n 0 (by omega)
    have hf := from_map hu (m := m) hb.1
    by_cases hlt : fromN L m < L.length
    · have h1 : fromR L m = ((val L (fromN L m) : Int), (fromN L m : Int), true) := if_pos hlt
      have h2 : fromR (L.map (· + b)) (m + b) = ((val L (fromN L m) + b : Int), (fromN L m : Int), true) := by
        unfold fromR
        rw [hf, List.length_map, if_pos hlt, val_map hu hb.1 hlt]
      have hv : val L (fromN L m) ≤ 18000 := by
        have := hs (L.getD (fromN L m) 0) (by rw [List.getD_eq_getElem?_getD, List.getElem?_eq_getElem hlt]; exact List.getElem_mem hlt)
        unfold val; omega
      rw [h1, h2]
      dsimp only
      rw [if_neg (by decide), if_pos rfl, if_pos rfl, show ((val L (fromN L m) : Int) + b) % 4294967296 = val L (fromN L m) + b by omega, bne_self_eq_false]
      exact key
    · have h1 : fromR L m = (0, 0, false) := if_neg hlt
      have h2 : fromR (L.map (· + b)) (m + b) = (0, 0, false) := by
        unfold fromR
        rw [hf, List.length_map, if_neg hlt]
      rw [h1, h2]
      dsimp only
      rw [if_neg (by decide), if_neg (by decide)]
      exact key
  | f + 1, i, h => by
    have hi : i < L.length := by omega
    rw [show f + 1 + (2 * n + 3) + 1 = (f + (2 * n + 3) + 1) + 1 by omega]
    unfold herbariumlaw06_FanoSteps.l0
    have hr : rd L (i : Int) = L[i] := by simp [rd, hi]
    have hx := hs _ (List.getElem_mem hi)
    have hx0 := hu _ (List.getElem_mem hi)
    rw [if_pos (by omega), if_pos (by omega), if_pos (by omega), if_pos (by simp; omega), show wrap64 ((i : Int) + 1) = ((i + 1 : Nat) : Int) by unfold wrap64; omega,
      show (rd L (i : Int) + b % 4294967296) % 4294967296 = rd L i + b by rw [hr]; omega]
    have e : (L.take i).map (· + b) ++ [rd L i + b] = (L.take (i + 1)).map (· + b) := by rw [take_snoc hi, List.map_append]; rfl
    rw [e]
    exact l0_ok L hL hn hu hs b m a n4 n hn4 h39 hb hm ha f (i + 1) (by omega)
theorem FanoSteps : herbariumlaw06_FanoSteps.Pure := by
  intro l0 a1 a2 a3 a4 h0l h02 h0w h1 h2 h3 h4
  have hA : herbariumlaw06_Awake.f = some true := rfl
  by_cases h60 : (l0.length : Int) > 60
  · exact ⟨0, by unfold herbariumlaw06_FanoSteps.f; rw [hA, Option.bind_some, if_pos rfl, if_pos h60]⟩
  have w1 : 0 ≤ a1 ∧ a1 ≤ 65535 := by simpa [Lit.wf, IntKind.min, IntKind.max, IntKind.signed, IntKind.bits] using h1
  have w2 : 0 ≤ a2 ∧ a2 ≤ 65535 := by simpa [Lit.wf, IntKind.min, IntKind.max, IntKind.signed, IntKind.bits] using h2
  have w3 : 0 ≤ a3 ∧ a3 ≤ 4294967295 := by simpa [Lit.wf, IntKind.min, IntKind.max, IntKind.signed, IntKind.bits] using h3
  have w4 : 0 ≤ a4 ∧ a4 ≤ 255 := by simpa [Lit.wf, IntKind.min, IntKind.max, IntKind.signed, IntKind.bits] using h4
  have hk0 := Int.tmod_nonneg 40 w4.1
  have hk1 := Int.tmod_lt_of_pos a4 (show (0 : Int) < 40 by omega)
  have hgw : ∀ g ∈ l0, 0 ≤ g ∧ g ≤ 65535 := fun g hg => by have := h0w g hg; simpa [Lit.wf, IntKind.min, IntKind.max, IntKind.signed, IntKind.bits] using this
  have hl : (slowL l0 []).length ≤ 60 := Nat.le_trans (slowG_len [] l0 0 0) (by omega)
  refine ⟨(slowL l0 []).length + (2 * (Int.tmod a4 40).toNat + 3) + 1, ?_⟩
  unfold herbariumlaw06_FanoSteps.f
  rw [hA, Option.bind_some, if_pos rfl, if_neg h60, slow_f h0w (by omega), Option.bind_some]
  exact l0_ok (slowL l0 []) hl (slowG_nf _ _ _ _) (slowG_u32 _ _ _ _) (fun x hx => by have := slow_le l0 0 0 hgw (by omega) x hx; omega) a1 a2 a3 a4 _ (by omega) (by omega) w1 w2 w3 _ 0 (by omega)
end Go.Proofs.Ytlmelcfiegamaaa.Pure
