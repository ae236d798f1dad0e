/- What is taken is what Put makes. -/
import Derived.Test.YtfpeeilenocaoaaIdxFind
import Derived.Test.YtfpeeilenocaoaaFrameP
namespace Go.Proofs.Ytfpeeilenocaoaa.Idx
open Go.RowKit Go.Proofs.Ytfpeeilenocaoaa.Own Go.Proofs.Ytfpeeilenocaoaa.Rely Go.Proofs.Ytfpeeilenocaoaa.Crc Go.Proofs.Ytfpeeilenocaoaa.Frame
open Wire (RS rbyte rbytes rnum rend Rd enc)

theorem drop_take_app {xs : List Int} {i n : Nat} (h : i + n ≤ xs.length) : xs.drop i = (xs.drop i).take n ++ xs.drop (i + n) := by
  rw [← List.drop_drop]
  exact (List.take_append_drop n _).symm
theorem lp_back {ys : List Int} (hy : IsBytes ys) : ∀ (k a : Nat) (s : RS) (acc l : List Ent) (s' : RS), lpX ys k a s acc = (l, s') → s'.err = 0 → s.at_ ≤ ys.length →
    s.err = 0 ∧ s'.at_ ≤ ys.length ∧ ∃ rest, l = acc ++ rest ∧ rest.length = k ∧ ys.drop s.at_ = rest.flatMap entB ++ ys.drop s'.at_ ∧ NmB rest ∧ (∀ x r, rest = x :: r → x.2.1 = (a : Int)) := by
  intro k
  induction k with
  | zero =>
    intro a s acc l s' h he hs
    unfold lpX at h
    injection h with h1 h2
    subst h1 h2
    exact ⟨he, hs, [], by simp, rfl, by simp, (fun x hx => by cases hx), (fun x r h => by cases h)⟩
  | succ k ih =>
    intro a s acc l s' h he hs
    unfold lpX at h
    split at h
    · rename_i hq
      injection h with h1 h2
      subst h2
      exact absurd he hq
    · rename_i hq
      have hs0 : s.err = 0 := by simpa using hq
      obtain ⟨b, s1, hb⟩ : ∃ b s1, rbyte ys s = (b, s1) := ⟨_, _, rfl⟩
      obtain ⟨nm, s2, hn⟩ : ∃ nm s2, rbytes ys s1 b = (nm, s2) := ⟨_, _, rfl⟩
      obtain ⟨z, s3, hz⟩ : ∃ z s3, rnum ys 1048576 s2 = (z, s3) := ⟨_, _, rfl⟩
      rw [hb] at h
      simp only at h
      rw [hn] at h
      simp only at h
      rw [hz] at h
      simp only at h
      -- the reader stands where it may: by cases on its errors
      have hle3 : s3.err = 0 → s3.at_ ≤ ys.length ∧ s.at_ < ys.length ∧ s3.at_ = s.at_ + 1 + nm.length + (enc z).length ∧ ys.drop s.at_ = entB (nm, (a : Int), (z : Int)) ++ ys.drop s3.at_ ∧ IsBytes nm := by
        intro h3
        have r3 := Wire.rnum_back hy (most := 1048576) (s := s2) (by rw [hz]; exact h3)
        rw [hz] at r3
        obtain ⟨e2, _, p3, p4, p5⟩ := r3
        simp only at e2 p3 p4 p5
        have a3 : s3.at_ = s2.at_ + (enc z).length := by rw [p3]
        have hs1 : s1.at_ ≤ ys.length := by
          have t := hb
          unfold Wire.rbyte at t
          split at t
          · rename_i hq2; injection t with _ t2; rw [← t2]; exact hq2.2
          · injection t with _ t2; rw [← t2]; unfold Wire.rfail; split <;> exact hs
        obtain ⟨e1, _, p6, p7, p8, p9⟩ := rbytes_ok hn e2 hs1
        obtain ⟨_, q1, q2, q3⟩ := rbyte_ok hb e1
        refine ⟨by omega, q1, by omega, ?_, ?_⟩
        · have d1 := drop_take_app (xs := ys) (i := s.at_) (n := 1) (by omega)
          have d2 := drop_take_app (xs := ys) (i := s.at_ + 1) (n := nm.length) (by omega)
          rw [d1, ← q3, d2]
          rw [← q2, ← p9, ← p6, p5, ← a3]
          unfold entB
          simp only [Int.toNat_natCast, ← p8]
          simp
        · rw [p9]
          exact fun x hx => hy x (List.mem_of_mem_drop (List.mem_of_mem_take hx))
      have hs3 : s3.at_ ≤ ys.length := by
        by_cases h3 : s3.err = 0
        · exact (hle3 h3).1
        · -- an error: the rest is not read
          exfalso
          cases k with
          | zero =>
            unfold lpX at h
            injection h with _ h2
            subst h2
            exact h3 he
          | succ k =>
            unfold lpX at h
            rw [if_pos h3] at h
            injection h with _ h2
            subst h2
            exact h3 he
      obtain ⟨e3, i2, rest, i3, i4, i5, i6, _⟩ := ih _ _ _ _ _ h he hs3
      obtain ⟨_, _, _, f4, f5⟩ := hle3 e3
      refine ⟨hs0, i2, (nm, (a : Int), (z : Int)) :: rest, by rw [i3]; simp, by simp [i4], ?_, ?_, ?_⟩
      · rw [f4, i5, List.flatMap_cons, List.append_assoc]
      · intro x hx
        rcases List.mem_cons.1 hx with rfl | hx
        · exact f5
        · exact i6 x hx
      · intro x r hxr
        injection hxr with hxr _
        rw [← hxr]
theorem take_back {xs : List Int} (hx : IsBytes xs) {l : List Ent} (h : takeX xs = .ok l) : xs = sumd (idxB l) ∧ checkX l = 0 ∧ NmB l := by
  unfold takeX at h
  split at h
  · cases h
  · split at h
    · cases h
    · rename_i h4 hr
      obtain ⟨_, hxs⟩ := right_sumd (show rightB xs = true by simpa using hr)
      have hyb : IsBytes (xs.take (xs.length - 4)) := fun x hx' => hx x (List.mem_of_mem_take hx')
      generalize xs.take (xs.length - 4) = ys at h hxs hyb
      rw [hxs]
      unfold bodyX startX at h
      obtain ⟨n, s1, hn⟩ : ∃ n s1, rnum ys 1000 ⟨0, 0⟩ = (n, s1) := ⟨_, _, rfl⟩
      rw [hn] at h
      simp only at h
      obtain ⟨a, s2, ha⟩ : ∃ a s2, (if 0 < n then rnum ys 1048576 s1 else (0, s1)) = (a, s2) := ⟨_, _, rfl⟩
      rw [ha] at h
      simp only at h
      obtain ⟨l', s3, hl⟩ : ∃ l' s3, lpX ys n a s2 [] = (l', s3) := ⟨_, _, rfl⟩
      rw [hl] at h
      simp only at h
      split at h
      · cases h
      · rename_i he
        split at h
        · cases h
        · rename_i hc
          injection h with h
          subst h
          have hc0 : checkX l' = 0 := by simpa using hc
          have he0 : rend ys s3 = 0 := by simpa using he
          have he3 : s3.err = 0 ∧ ys.length ≤ s3.at_ := by
            unfold Wire.rend at he0
            split at he0
            · cases he0
            · rename_i hq
              refine ⟨he0, ?_⟩
              rcases Nat.lt_or_ge s3.at_ ys.length with q | q
              · exact absurd ⟨he0, q⟩ hq
              · exact q
          have hdn : ∀ i, ys.length ≤ i → ys.drop i = [] := fun i hi => List.drop_eq_nil_of_le hi
          refine ⟨?_, hc0, ?_⟩
          · congr 1
            cases n with
            | zero =>
              rw [if_neg (by omega)] at ha
              injection ha with ha1 ha2
              subst ha1 ha2
              unfold lpX at hl
              injection hl with hl1 hl2
              subst hl1 hl2
              have r := Wire.rnum_back hyb (most := 1000) (s := ⟨0, 0⟩) (by rw [hn]; exact he3.1)
              rw [hn] at r
              obtain ⟨_, _, p3, _, p5⟩ := r
              simp only at p3 p5
              rw [p3] at he3
              rw [hdn _ he3.2, List.append_nil] at p5
              rw [Wire.enc_small (show 0 < 128 by decide)] at p5
              rw [idx_nil]
              exact p5
            | succ k =>
              rw [if_pos (by omega)] at ha
              have e2 : s2.err = 0 := by
                by_cases hq : s2.err = 0
                · exact hq
                · unfold lpX at hl
                  rw [if_pos hq] at hl
                  injection hl with _ hl2
                  subst hl2
                  exact he3.1
              have r2 := Wire.rnum_back hyb (most := 1048576) (s := s1) (by rw [ha]; exact e2)
              rw [ha] at r2
              obtain ⟨e1, _, p3, p4, p5⟩ := r2
              simp only at e1 p3 p4 p5
              have r1 := Wire.rnum_back hyb (most := 1000) (s := ⟨0, 0⟩) (by rw [hn]; exact e1)
              rw [hn] at r1
              obtain ⟨_, _, q3, q4, q5⟩ := r1
              simp only at q3 q4 q5
              obtain ⟨_, _, rest, i3, i4, i5, _, i7⟩ := lp_back hyb _ _ _ _ _ _ hl he3.1 (by rw [p3]; exact p4)
              rw [List.nil_append] at i3
              subst i3
              rw [hdn _ he3.2, List.append_nil] at i5
              cases l' with
              | nil => simp at i4
              | cons x r =>
                have ha' := i7 x r rfl
                have hd : ys = enc (k + 1) ++ (enc a ++ (x :: r).flatMap entB) := by
                  have w0 : ys = ys.drop 0 := rfl
                  rw [w0, q5]
                  congr 1
                  rw [q3] at p5 p3
                  simp only at p5 p3
                  rw [p5]
                  congr 1
                  rw [← i5, p3]
                rw [hd]
                unfold idxB partB
                rw [if_neg (by simp), List.take_of_length_le (Nat.le_refl _), i4, List.append_assoc]
                congr 1
                show _ = enc x.2.1.toNat ++ _
                rw [ha', Int.toNat_natCast]
          · cases n with
            | zero =>
              rw [if_neg (by omega)] at ha
              injection ha with ha1 ha2
              subst ha1 ha2
              unfold lpX at hl
              injection hl with hl1 hl2
              subst hl1
              exact fun x hx => by cases hx
            | succ k =>
              rw [if_pos (by omega)] at ha
              have e2 : s2.err = 0 := by
                by_cases hq : s2.err = 0
                · exact hq
                · unfold lpX at hl
                  rw [if_pos hq] at hl
                  injection hl with _ hl2
                  subst hl2
                  exact he3.1
              have r2 := Wire.rnum_back hyb (most := 1048576) (s := s1) (by rw [ha]; exact e2)
              rw [ha] at r2
              obtain ⟨_, _, p3, p4, _⟩ := r2
              simp only at p3 p4
              obtain ⟨_, _, rest, i3, _, _, i6, _⟩ := lp_back hyb _ _ _ _ _ _ hl he3.1 (by rw [p3]; exact p4)
              rw [List.nil_append] at i3
              subst i3
              exact i6
end Go.Proofs.Ytfpeeilenocaoaa.Idx
