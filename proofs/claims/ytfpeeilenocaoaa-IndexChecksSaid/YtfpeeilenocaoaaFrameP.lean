/- Frames, in plain lists: what is taken is a frame's bytes; no beginning of one is one, nor is a longer row. -/
import Derived.Test.YtfpeeilenocaoaaFrameS
namespace Go.Proofs.Ytfpeeilenocaoaa.Frame
open Go.RowKit Go.Proofs.Ytfpeeilenocaoaa.Own Go.Proofs.Ytfpeeilenocaoaa.Rely Go.Proofs.Ytfpeeilenocaoaa.Crc

theorem right_sumd {xs : List Int} (h : rightB xs = true) : 4 ≤ xs.length ∧ xs = sumd (xs.take (xs.length - 4)) := by
  unfold rightB at h
  obtain ⟨h1, h2⟩ := of_decide_eq_true h
  refine ⟨h1, ?_⟩
  unfold sumd
  rw [← h2, List.take_append_drop]
theorem rbyte_ok {xs : List Int} {s s' : Wire.RS} {b : Int} (h : Wire.rbyte xs s = (b, s')) (he : s'.err = 0) : s.err = 0 ∧ s.at_ < xs.length ∧ s'.at_ = s.at_ + 1 ∧ [b] = (xs.drop s.at_).take 1 := by
  have t := Wire.took_byte (xs := xs) s (sm := false) (fun _ => rfl)
  rw [h] at t
  obtain ⟨h1, h2, h3⟩ := t.1 he
  unfold Wire.rbyte at h
  split at h
  · rename_i hq
    cases h
    refine ⟨h1, hq.2, rfl, ?_⟩
    rw [h3, show s.at_ + 1 - s.at_ = 1 by omega]
  · cases h
    exact absurd he (Wire.rfail_err (by decide))
theorem rbytes_ok {xs : List Int} {s s' : Wire.RS} {n : Int} {nm : List Int} (h : Wire.rbytes xs s n = (nm, s')) (he : s'.err = 0) (ha : s.at_ ≤ xs.length) :
    s.err = 0 ∧ 0 ≤ n ∧ s'.at_ = s.at_ + nm.length ∧ s'.at_ ≤ xs.length ∧ (nm.length : Int) = n ∧ nm = (xs.drop s.at_).take nm.length := by
  unfold Wire.rbytes at h
  split at h
  · cases h
    exact absurd he (Wire.rfail_err (by decide))
  · rename_i hq
    cases h
    have h0 : s.err = 0 := he
    have hl : (Wire.rleft xs s) = xs.length - s.at_ := by unfold Wire.rleft; rw [if_pos h0]
    rw [hl] at hq
    have hlen : ((xs.drop s.at_).take n.toNat).length = n.toNat := by simp; omega
    refine ⟨h0, by omega, ?_, ?_, ?_, ?_⟩
    · rw [hlen]
    · show s.at_ + n.toNat ≤ _; omega
    · rw [hlen]; omega
    · rw [hlen]
theorem rword_ok' {xs : List Int} (hx : IsBytes xs) {s s' : Wire.RS} {n : Nat} (h : Wire.rword xs s = (n, s')) (he : s'.err = 0) : s.err = 0 ∧ s'.at_ = s.at_ + 4 ∧ s.at_ + 4 ≤ xs.length ∧ Wire.word4 n = (xs.drop s.at_).take 4 := by
  have t := Wire.took_word hx s (sm := false) (fun _ => rfl)
  have o := rword_ok (xs := xs) (s := s) (by rw [h]; exact he)
  rw [h] at t o
  obtain ⟨_, _, h3⟩ := t.1 he
  refine ⟨o.1, o.2.1, o.2.2, ?_⟩
  rw [h3, o.2.1, show s.at_ + 4 - s.at_ = 4 by omega]
/-- The parts of what was read. -/
theorem take_parts {xs : List Int} (hx : IsBytes xs) {b0 kd : Int} {nm : List Int} {n z : Nat} {s1 s2 s3 s4 s5 : Wire.RS}
    (hb : Wire.rbyte xs ⟨0, 0⟩ = (b0, s1)) (hm : Wire.rbytes xs s1 b0 = (nm, s2)) (hk : Wire.rbyte xs s2 = (kd, s3)) (hn : Wire.rword xs s3 = (n, s4)) (hz : Wire.rword xs s4 = (z, s5)) (he : s5.err = 0) :
    b0 = (nm.length : Int) ∧ s4.at_ = 1 + nm.length + 1 + 4 ∧ s4.at_ + 4 ≤ xs.length ∧ xs.take s4.at_ = [(nm.length : Int)] ++ nm ++ [kd] ++ Wire.word4 n := by
  obtain ⟨e4, _, l5, _⟩ := rword_ok' hx hz he
  obtain ⟨e3, a4, l4, w4⟩ := rword_ok' hx hn e4
  obtain ⟨e2, l3, a3, w3⟩ := rbyte_ok hk e3
  have l1 : s1.at_ ≤ xs.length ∧ (s1.err = 0 → s1.at_ = 1 ∧ [b0] = xs.take 1) := by
    by_cases h1 : s1.err = 0
    · obtain ⟨_, q2, q3, q4⟩ := rbyte_ok hb h1
      simp only [List.drop_zero] at q2 q3 q4
      exact ⟨by omega, fun _ => ⟨by omega, q4⟩⟩
    · refine ⟨?_, fun h => absurd h h1⟩
      unfold Wire.rbyte at hb
      split at hb
      · cases hb; exact absurd rfl h1
      · cases hb
        unfold Wire.rfail
        simp
  obtain ⟨e1, _, a2, l2, hln, w2⟩ := rbytes_ok hm e2 l1.1
  obtain ⟨a1, w1⟩ := l1.2 e1
  refine ⟨hln.symm, by omega, l5, ?_⟩
  rw [a4, a3, a2, a1, List.take_add, List.take_add, List.take_add, ← w1, hln]
  rw [a3, a2, a1] at w4
  rw [a2, a1] at w3
  rw [a1] at w2
  rw [← w4, ← w3, ← w2]
theorem take_back {xs : List Int} (hx : IsBytes xs) {nm pay : List Int} {k : Nat} (h : takeF xs = .ok (nm, k, pay)) : xs = frameB nm k pay ∧ IsBytes nm ∧ IsBytes pay ∧ checkF nm.length k pay.length = 0 := by
  unfold takeF at h
  obtain ⟨b0, s1, hb⟩ : ∃ b0 s1, Wire.rbyte xs ⟨0, 0⟩ = (b0, s1) := ⟨_, _, rfl⟩
  obtain ⟨nm', s2, hm⟩ : ∃ nm s2, Wire.rbytes xs s1 b0 = (nm, s2) := ⟨_, _, rfl⟩
  obtain ⟨kd, s3, hk⟩ : ∃ a b, Wire.rbyte xs s2 = (a, b) := ⟨_, _, rfl⟩
  obtain ⟨n, s4, hn⟩ : ∃ a b, Wire.rword xs s3 = (a, b) := ⟨_, _, rfl⟩
  obtain ⟨z, s5, hz⟩ : ∃ a b, Wire.rword xs s4 = (a, b) := ⟨_, _, rfl⟩
  have hkr := Wire.rbyte_range hx s2
  have hnr := Wire.rword_le hx s3
  rw [hk] at hkr
  rw [hn] at hnr
  simp only [hb, hm, hk, hn, hz] at h
  split at h
  · cases h
  rename_i he
  split at h
  · cases h
  rename_i hr1
  split at h
  · cases h
  rename_i hl
  split at h
  · cases h
  rename_i hr2
  split at h
  · cases h
  rename_i hc
  cases h
  have he' : s5.err = 0 := Decidable.not_not.1 he
  obtain ⟨p1, p2, p3, p4⟩ := take_parts hx hb hm hk hn hz he'
  have hr1' : rightB (xs.take (s4.at_ + 4)) = true := by
    cases hq : rightB (xs.take (s4.at_ + 4)) with
    | true => rfl
    | false => exact absurd hq hr1
  have hr2' : rightB (xs.drop (s4.at_ + 4)) = true := by
    cases hq : rightB (xs.drop (s4.at_ + 4)) with
    | true => rfl
    | false => exact absurd hq hr2
  have hl' : xs.length = s4.at_ + 4 + (n + 4) := Decidable.not_not.1 hl
  have hc' := Decidable.not_not.1 hc
  have hdl : (xs.drop (s4.at_ + 4)).length = n + 4 := by rw [List.length_drop]; omega
  have hpl : ((xs.drop (s4.at_ + 4)).take n).length = n := by rw [List.length_take, hdl]; omega
  have hnb : IsBytes nm := by
    intro x hx'
    have hx2 : x ∈ xs.take s4.at_ := by rw [p4]; simp [hx']
    exact hx x (List.mem_of_mem_take hx2)
  have hpb : IsBytes ((xs.drop (s4.at_ + 4)).take n) := fun x hx' => hx x (List.mem_of_mem_drop (List.mem_of_mem_take hx'))
  refine ⟨?_, hnb, hpb, ?_⟩
  · obtain ⟨_, q1⟩ := right_sumd hr1'
    obtain ⟨_, q2⟩ := right_sumd hr2'
    have hn2 : n ≤ 4294967295 := hnr
    have hkk : ((kd.toNat : Nat) : Int) = kd := Int.toNat_of_nonneg hkr.1
    unfold frameB headB
    rw [hpl, wd_word4 hn2, hkk, ← p4]
    have t1 : (xs.take (s4.at_ + 4)).take ((xs.take (s4.at_ + 4)).length - 4) = xs.take s4.at_ := by
      rw [List.take_take, List.length_take]
      congr 1
      omega
    rw [t1] at q1
    rw [hdl, show n + 4 - 4 = n by omega] at q2
    rw [← q1, ← q2, List.take_append_drop]
  · rw [hpl]; exact hc'
/-- A frame's bytes tell the frame. -/
theorem frame_inj {nm pay nm2 pay2 : List Int} {k k2 : Nat} (hn : IsBytes nm) (hp : IsBytes pay) (hc : checkF nm.length k pay.length = 0) (hn2 : IsBytes nm2) (hp2 : IsBytes pay2) (hc2 : checkF nm2.length k2 pay2.length = 0)
    (h : frameB nm k pay = frameB nm2 k2 pay2) : nm = nm2 ∧ k = k2 ∧ pay = pay2 := by
  have h1 := take_put hn hp hc
  have h2 := take_put hn2 hp2 hc2
  rw [h, h2] at h1
  simp only [Except.ok.injEq, Prod.mk.injEq] at h1
  exact ⟨h1.1.symm, h1.2.1.symm, h1.2.2.symm⟩
/-- Two frames' bytes, of which one begins with the other, are the same. -/
theorem frame_prefix {nm pay nm2 pay2 more : List Int} {k k2 : Nat} (hc : checkF nm.length k pay.length = 0) (hc2 : checkF nm2.length k2 pay2.length = 0)
    (h : frameB nm2 k2 pay2 = frameB nm k pay ++ more) : more = [] := by
  obtain ⟨_, a2, a3, a4⟩ := checkF_ok.1 hc
  obtain ⟨_, b2, b3, b4⟩ := checkF_ok.1 hc2
  have hf : ∀ (nm : List Int) (k : Nat) (pay : List Int), frameB nm k pay = (nm.length : Int) :: (nm ++ ((k : Int) :: (wd pay.length ++ (wd (sum (headB nm k pay.length)).toNat ++ sumd pay)))) := by
    intro nm k pay
    simp [frameB, headB, sumd, List.append_assoc]
  rw [hf, hf nm, List.cons_append, List.cons.injEq] at h
  obtain ⟨h0, h1⟩ := h
  have hnl : nm2.length = nm.length := by omega
  rw [List.append_assoc] at h1
  obtain ⟨h2, h3⟩ := List.append_inj h1 hnl
  rw [List.cons_append, List.cons.injEq] at h3
  obtain ⟨_, h4⟩ := h3
  rw [List.append_assoc] at h4
  obtain ⟨h5, h6⟩ := List.append_inj h4 (by simp [wd])
  have hpl : pay2.length = pay.length := by
    rw [wd_word4 (by omega), wd_word4 (by omega)] at h5
    unfold Wire.word4 at h5
    simp only [List.cons.injEq, and_true] at h5
    omega
  have hll := congrArg List.length h6
  simp only [List.length_append, sumd_len] at hll
  simp only [wd, List.length_cons, List.length_nil] at hll
  have : more.length = 0 := by omega
  exact List.eq_nil_of_length_eq_zero this
end Go.Proofs.Ytfpeeilenocaoaa.Frame
