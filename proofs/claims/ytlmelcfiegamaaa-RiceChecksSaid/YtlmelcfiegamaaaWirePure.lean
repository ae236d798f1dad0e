/- The wire's numbers, as functions on lists: what is put is taken as it was; what is taken is what would be put. No program is in sight. -/
import Derived.Test.YtlmelcfiegamaaaReadB
namespace Go.Proofs.Ytlmelcfiegamaaa.Wire
open Go.RowKit Go.Proofs.Ytlmelcfiegamaaa.Own

theorem getD_of_drop {xs : List Int} {i : Nat} {c : Int} {r : List Int} (h : xs.drop i = c :: r) : i < xs.length ∧ xs.getD i 0 = c ∧ xs.drop (i + 1) = r := by
  have hi : i < xs.length := by
    apply Classical.byContradiction
    intro q
    rw [List.drop_of_length_le (by omega)] at h
    cases h
  rw [List.drop_eq_getElem_cons hi] at h
  injection h with h1 h2
  exact ⟨hi, by simp [List.getD_eq_getElem?_getD, List.getElem?_eq_getElem hi, h1], h2⟩

theorem rbyte_at {xs : List Int} {i : Nat} {c : Int} {r : List Int} (h : xs.drop i = c :: r) : rbyte xs ⟨i, 0⟩ = (c, ⟨i + 1, 0⟩) := by
  obtain ⟨h1, h2, _⟩ := getD_of_drop h
  unfold rbyte
  rw [if_pos ⟨rfl, h1⟩, h2]

theorem uone_at {xs : List Int} {k i : Nat} {c : Int} {r : List Int} (h : xs.drop i = c :: r) (hb : ubad k c = false) : uone xs k ⟨i, 0⟩ = (c, ⟨i + 1, 0⟩) := by
  unfold uone
  rw [rbyte_at h]
  simp only [hb, Bool.false_eq_true, if_false]

/-- What was put is taken. -/
theorem uloop_enc (xs : List Int) : ∀ (j m k acc i : Nat) (post : List Int), k + j = 9 → xs.drop i = enc m ++ post → m * 128 ^ k < 18446744073709551616 → (0 < k → 0 < m) →
    uloop xs (9 - k) acc ⟨i, 0⟩ = (some (acc + m * 128 ^ k), ⟨i + (enc m).length, 0⟩) := by
  intro j
  induction j with
  | zero =>
    intro m k acc i post hk hd hm h0
    obtain rfl : k = 9 := by omega
    have h5 : (128 : Nat) ^ 9 = 9223372036854775808 := by decide
    have hm1 : m ≤ 1 := by rw [h5] at hm; omega
    have hm2 := h0 (by omega)
    obtain rfl : m = 1 := by omega
    rw [enc_small (by omega)] at hd ⊢
    have hb : ubad 9 ((1 : Nat) : Int) = false := by decide
    have ho := uone_at (k := 9) hd hb
    rw [uloop_last (by omega) (by rw [ho]) (by rw [ho]; show ((1 : Nat) : Int) < 128; omega), ho]
    rfl
  | succ j ih =>
    intro m k acc i post hk hd hm h0
    by_cases hs : m < 128
    · rw [enc_small hs] at hd ⊢
      have hb : ubad k (m : Int) = false := by
        unfold ubad
        rcases Nat.eq_zero_or_pos k with h | h
        · subst h; simp
        · have := h0 h
          simp [show k ≠ 9 by omega, show m ≠ 0 by omega]
      have ho := uone_at (k := k) hd hb
      rw [uloop_last (by omega) (by rw [ho]) (by rw [ho]; show (m : Int) < 128; omega), ho]
      have e : ((m : Int) % 128).toNat = m := by omega
      simp only [e, List.length_singleton]
    · rw [enc_big hs] at hd ⊢
      have hb : ubad k ((m % 128 + 128 : Nat) : Int) = false := by
        unfold ubad
        rw [decide_eq_false (show ¬ k = 9 by omega), decide_eq_false (show ¬ (((m % 128 + 128 : Nat) : Int)) = 0 by omega)]
        simp
      have ho := uone_at (k := k) hd hb
      obtain ⟨_, _, hd2⟩ := getD_of_drop hd
      rw [uloop_next (by omega) (by rw [ho]) (by rw [ho]; show ¬ (((m % 128 + 128 : Nat) : Int)) < 128; omega), ho]
      have e : (((m % 128 + 128 : Nat) : Int) % 128).toNat = m % 128 := by omega
      simp only [e]
      have h6 : m / 128 * 128 ^ (k + 1) + m % 128 * 128 ^ k = m * 128 ^ k := by
        rw [Nat.pow_succ, Nat.mul_comm (128 ^ k) 128, ← Nat.mul_assoc, ← Nat.add_mul]
        congr 1; omega
      rw [ih (m / 128) (k + 1) _ (i + 1) post (by omega) hd2 (by omega) (fun _ => by omega)]
      rw [List.length_cons]
      congr 1
      · congr 1; omega
      · congr 1; omega

theorem rnum_enc {xs : List Int} {i n most : Nat} {post : List Int} (hd : xs.drop i = enc n ++ post) (hn : U64 n) (hm : n ≤ most) : rnum xs most ⟨i, 0⟩ = (n, ⟨i + (enc n).length, 0⟩) := by
  unfold rnum
  have := uloop_enc xs 9 n 0 0 i post rfl hd (by simpa using hn.lt) (fun h => absurd h (Nat.lt_irrefl 0))
  simp only [Nat.sub_zero, Nat.pow_zero, Nat.mul_one, Nat.zero_add] at this
  rw [this]
  simp only
  rw [if_neg (by omega)]
theorem rnum_many {xs : List Int} {i n most : Nat} {post : List Int} (hd : xs.drop i = enc n ++ post) (hn : U64 n) (hm : most < n) : rnum xs most ⟨i, 0⟩ = (0, ⟨i + (enc n).length, 7⟩) := by
  unfold rnum
  have := uloop_enc xs 9 n 0 0 i post rfl hd (by simpa using hn.lt) (fun h => absurd h (Nat.lt_irrefl 0))
  simp only [Nat.sub_zero, Nat.pow_zero, Nat.mul_one, Nat.zero_add] at this
  rw [this]
  simp only
  rw [if_pos hm]
  rfl

theorem uone_ok {xs : List Int} {k : Nat} {s : RS} (h : (uone xs k s).2.err = 0) : s.err = 0 ∧ s.at_ < xs.length ∧ (uone xs k s) = (xs.getD s.at_ 0, ⟨s.at_ + 1, 0⟩) ∧ ubad k (xs.getD s.at_ 0) = false ∧ xs.drop s.at_ = xs.getD s.at_ 0 :: xs.drop (s.at_ + 1) := by
  unfold uone at h ⊢
  by_cases hb : ubad k (rbyte xs s).1 = true
  · rw [hb] at h
    exact absurd h (rfail_ne _ (by omega))
  · simp only [Bool.not_eq_true] at hb
    rw [hb] at h ⊢
    simp only [Bool.false_eq_true, if_false] at h ⊢
    unfold rbyte at h hb ⊢
    by_cases hc : s.err = 0 ∧ s.at_ < xs.length
    · rw [if_pos hc] at h hb ⊢
      refine ⟨hc.1, hc.2, by rw [hc.1], hb, ?_⟩
      rw [List.drop_eq_getElem_cons hc.2]
      simp [List.getD_eq_getElem?_getD, List.getElem?_eq_getElem hc.2]
    · rw [if_neg hc] at h
      exact absurd h (rfail_ne _ (by omega))

/-- What is taken would be put so. -/
theorem uloop_back (xs : List Int) (hx : IsBytes xs) : ∀ (f n : Nat) (s : RS) (m : Nat) (s' : RS), f ≤ 9 → uloop xs f n s = (some m, s') →
    ∃ d, m = n + d * 128 ^ (9 - f) ∧ s.err = 0 ∧ s' = ⟨s.at_ + (enc d).length, 0⟩ ∧ s.at_ + (enc d).length ≤ xs.length ∧ xs.drop s.at_ = enc d ++ xs.drop (s.at_ + (enc d).length) ∧ (f < 9 → 0 < d) := by
  have hbyte : ∀ i, i < xs.length → 0 ≤ xs.getD i 0 ∧ xs.getD i 0 ≤ 255 := fun i hi => hx _ (by simp [List.getD_eq_getElem?_getD, List.getElem?_eq_getElem hi])
  have last : ∀ (k n : Nat) (s : RS) (m : Nat) (s' : RS), (uone xs k s).2.err = 0 → (uone xs k s).1 < 128 → (0 < k → (uone xs k s).1 ≠ 0) → (some (n + ((uone xs k s).1 % 128).toNat * 128 ^ k), (uone xs k s).2) = (some m, s') →
      ∃ d, m = n + d * 128 ^ k ∧ s.err = 0 ∧ s' = ⟨s.at_ + (enc d).length, 0⟩ ∧ s.at_ + (enc d).length ≤ xs.length ∧ xs.drop s.at_ = enc d ++ xs.drop (s.at_ + (enc d).length) ∧ (0 < k → 0 < d) := by
    intro k n s m s' he hz hne h
    obtain ⟨h1, h2, h3, h4, h5⟩ := uone_ok he
    obtain ⟨b0, b1⟩ := hbyte s.at_ h2
    rw [h3] at hz hne h
    injection h with e1 e2
    injection e1 with e1
    simp only at hz hne e1 e2
    have hd : enc ((xs.getD s.at_ 0).toNat) = [xs.getD s.at_ 0] := by rw [enc_small (by omega)]; congr 1; omega
    refine ⟨(xs.getD s.at_ 0).toNat, ?_, h1, ?_, ?_, ?_, fun hk => ?_⟩
    · rw [← e1, show (xs.getD s.at_ 0 % 128).toNat = (xs.getD s.at_ 0).toNat by omega]
    · rw [hd]; exact e2.symm
    · rw [hd]; simp only [List.length_singleton]; omega
    · rw [hd]; exact h5
    · have := hne hk; omega
  have nz : ∀ k s, (uone xs k s).2.err = 0 → 0 < k → (uone xs k s).1 ≠ 0 := by
    intro k s he hk
    obtain ⟨_, _, h3, h4, _⟩ := uone_ok he
    rw [h3]
    intro q
    simp only at q
    rw [q] at h4
    unfold ubad at h4
    simp [hk] at h4
  intro f
  induction f with
  | zero =>
    intro n s m s' _ h
    rw [uloop] at h
    split at h
    · cases h
    · rename_i he
      have he : (uone xs 9 s).2.err = 0 := by simpa using he
      have hz : (uone xs 9 s).1 < 128 := by
        obtain ⟨_, _, h3, h4, _⟩ := uone_ok he
        rw [h3]
        generalize xs.getD s.at_ 0 = z at h4
        unfold ubad at h4
        simp at h4
        simp only; omega
      obtain ⟨d, q⟩ := last 9 n s m s' he hz (nz 9 s he) h
      exact ⟨d, q.1, q.2.1, q.2.2.1, q.2.2.2.1, q.2.2.2.2.1, fun _ => q.2.2.2.2.2 (by omega)⟩
  | succ f ih =>
    intro n s m s' hf h
    rw [uloop] at h
    split at h
    · cases h
    · rename_i he
      have he : (uone xs (8 - f) s).2.err = 0 := by simpa using he
      rw [show 9 - (f + 1) = 8 - f by omega]
      split at h
      · rename_i hz
        obtain ⟨d, q⟩ := last (8 - f) n s m s' he hz (nz _ s he) h
        exact ⟨d, q.1, q.2.1, q.2.2.1, q.2.2.2.1, q.2.2.2.2.1, fun hk => q.2.2.2.2.2 (by omega)⟩
      · rename_i hz
        obtain ⟨h1, h2, h3, h4, h5⟩ := uone_ok he
        obtain ⟨b0, b1⟩ := hbyte s.at_ h2
        rw [h3] at hz h
        simp only at hz h
        obtain ⟨d, q1, q2, q3, q4, q5, q6⟩ := ih _ _ m s' (by omega) h
        have hd0 := q6 (by omega)
        have hc : ((xs.getD s.at_ 0).toNat % 128 + d * 128) % 128 + 128 = (xs.getD s.at_ 0).toNat := by omega
        have he2 : enc ((xs.getD s.at_ 0).toNat % 128 + d * 128) = xs.getD s.at_ 0 :: enc d := by
          rw [enc_big (by omega), hc, show ((xs.getD s.at_ 0).toNat % 128 + d * 128) / 128 = d by omega]
          congr 1; omega
        refine ⟨(xs.getD s.at_ 0).toNat % 128 + d * 128, ?_, h1, ?_, ?_, ?_, fun _ => by omega⟩
        · rw [q1, show 9 - f = (8 - f) + 1 by omega, Nat.pow_succ, Nat.add_mul, show (xs.getD s.at_ 0 % 128).toNat = (xs.getD s.at_ 0).toNat % 128 by omega, Nat.mul_comm (128 ^ (8 - f)) 128, Nat.mul_assoc d 128, Nat.add_assoc]
        · rw [he2, q3, List.length_cons]; simp only; congr 1; omega
        · rw [he2, List.length_cons]; simp only at q4; omega
        · rw [he2, List.length_cons, List.cons_append]
          simp only at q5
          rw [h5]
          congr 1
          rw [q5]
          congr 2
          omega

theorem rnum_back {xs : List Int} (hx : IsBytes xs) {most : Nat} {s : RS} (h : (rnum xs most s).2.err = 0) :
    s.err = 0 ∧ (rnum xs most s).1 ≤ most ∧ (rnum xs most s).2 = ⟨s.at_ + (enc (rnum xs most s).1).length, 0⟩ ∧ s.at_ + (enc (rnum xs most s).1).length ≤ xs.length ∧ xs.drop s.at_ = enc (rnum xs most s).1 ++ xs.drop (s.at_ + (enc (rnum xs most s).1).length) := by
  unfold rnum at h ⊢
  cases hu : uloop xs 9 0 s with
  | mk o s' =>
    rw [hu] at h
    cases o with
    | none =>
      simp only at h
      exfalso
      have key : ∀ (f n : Nat) (s s' : RS), uloop xs f n s = (none, s') → s'.err ≠ 0 := by
        intro f
        induction f with
        | zero =>
          intro n s s' h
          rw [uloop] at h
          split at h
          · rename_i he
            injection h with _ h
            rw [← h]; exact he
          · cases h
        | succ f ih =>
          intro n s s' h
          rw [uloop] at h
          split at h
          · rename_i he
            injection h with _ h
            rw [← h]; exact he
          · split at h
            · cases h
            · exact ih _ _ _ h
      exact key 9 0 s s' hu h
    | some m =>
      simp only at h ⊢
      obtain ⟨d, q1, q2, q3, q4, q5, _⟩ := uloop_back xs hx 9 0 s m s' (by omega) hu
      simp only [Nat.sub_self, Nat.pow_zero, Nat.mul_one, Nat.zero_add] at q1
      subst q1
      by_cases hm : most < m
      · rw [if_pos hm] at h
        exact absurd h (rfail_ne _ (by omega))
      · rw [if_neg hm]
        exact ⟨q2, by omega, q3, q4, q5⟩

theorem enc_bytes : ∀ n, IsBytes (enc n) := by
  intro n
  induction n using Nat.strongRecOn with
  | _ n ih =>
    by_cases h : n < 128
    · rw [enc_small h]; intro x hx; simp at hx; omega
    · rw [enc_big h]
      intro x hx
      rcases List.mem_cons.1 hx with rfl | hx
      · omega
      · exact ih _ (by omega) x hx
theorem IsBytes.app {a b : List Int} (ha : IsBytes a) (hb : IsBytes b) : IsBytes (a ++ b) := fun x hx => (List.mem_append.1 hx).elim (ha x) (hb x)

end Go.Proofs.Ytlmelcfiegamaaa.Wire
