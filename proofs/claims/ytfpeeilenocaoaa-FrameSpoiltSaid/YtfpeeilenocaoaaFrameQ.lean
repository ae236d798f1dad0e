/- Frames, in plain lists: bits that are changed; beginnings; longer rows. -/
import Derived.Test.YtfpeeilenocaoaaFrameP
import Derived.Test.YtfpeeilenocaoaaCrcBursts
namespace Go.Proofs.Ytfpeeilenocaoaa.Frame
open Go.RowKit Go.Proofs.Ytfpeeilenocaoaa.Own Go.Proofs.Ytfpeeilenocaoaa.Rely Go.Proofs.Ytfpeeilenocaoaa.Crc

theorem takeF_err {xs : List Int} {x : Int} (h : takeF xs = .error x) : x ≠ 0 := by
  unfold takeF at h
  simp only at h
  split at h
  · cases h; assumption
  split at h
  · cases h; decide
  split at h
  · cases h; decide
  split at h
  · cases h; decide
  split at h
  · cases h; assumption
  · cases h
theorem rword_fit {X : List Int} {i : Nat} (h : i + 4 ≤ X.length) : (Wire.rword X ⟨i, 0⟩).2 = ⟨i + 4, 0⟩ := by
  unfold Wire.rword
  have : Wire.rleft X ⟨i, 0⟩ = X.length - i := by unfold Wire.rleft; rw [if_pos rfl]
  rw [if_neg (by rw [this]; omega)]
/-- A head whose sum is wrong. -/
theorem takeF_bad {X r : List Int} {nl : Nat} (hX : X = (nl : Int) :: r) (hl : nl + 9 ≤ r.length) (hbad : rightB (X.take (nl + 10)) = false) : takeF X = .error 10 := by
  have hXl : nl + 10 ≤ X.length := by rw [hX]; simp only [List.length_cons]; omega
  have e1 : Wire.rbyte X ⟨0, 0⟩ = ((nl : Int), ⟨1, 0⟩) := Wire.rbyte_at (show X.drop 0 = _ from hX)
  have e2 : Wire.rbytes X ⟨1, 0⟩ (nl : Int) = ((X.drop 1).take nl, ⟨1 + nl, 0⟩) := by
    unfold Wire.rbytes
    rw [if_neg]
    · rfl
    · have : Wire.rleft X ⟨1, 0⟩ = X.length - 1 := by unfold Wire.rleft; rw [if_pos rfl]
      rw [this]; omega
  have e3 : (Wire.rbyte X ⟨1 + nl, 0⟩).2 = ⟨1 + nl + 1, 0⟩ := by
    unfold Wire.rbyte
    rw [if_pos ⟨rfl, show 1 + nl < X.length by omega⟩]
  have e4 := rword_fit (X := X) (i := 1 + nl + 1) (by omega)
  have e5 := rword_fit (X := X) (i := 1 + nl + 1 + 4) (by omega)
  unfold takeF
  simp only [e1, e2, e3, e4, e5]
  rw [if_neg (fun h => h rfl), if_pos]
  rw [show 1 + nl + 1 + 4 + 4 = nl + 10 by omega]
  exact hbad
/-- A payload whose sum is wrong. -/
theorem takeF_tail {nm Y : List Int} {k m : Nat} (hn : IsBytes nm) (h2 : nm.length ≤ 255) (h3 : k ≤ 255) (h4 : m ≤ 1048576) (hY : Y.length = m + 4) (hbad : rightB Y = false) : takeF (sumd (headB nm k m) ++ Y) = .error 10 := by
  obtain ⟨SH, hSH⟩ : ∃ SH, (sum (headB nm k m)).toNat = SH := ⟨_, rfl⟩
  have hSb : SH ≤ 4294967295 := by rw [← hSH]; have := (sum (headB nm k m)).isLt; omega
  have hr := put_right (head_bytes hn h2 h3 m)
  obtain ⟨X, hX⟩ : ∃ X, sumd (headB nm k m) ++ Y = X := ⟨_, rfl⟩
  have hform : X = (nm.length : Int) :: (nm ++ ((k : Int) :: (Wire.word4 m ++ (Wire.word4 SH ++ Y)))) := by
    rw [← hX, show sumd (headB nm k m) = headB nm k m ++ wd SH by unfold sumd; rw [hSH], wd_word4 hSb]
    unfold headB
    rw [wd_word4 (by omega)]
    simp
  have hlen : X.length = nm.length + 10 + (m + 4) := by rw [← hX, List.length_append, sumd_len, head_len, hY]
  have d1 : X.drop 1 = nm ++ ((k : Int) :: (Wire.word4 m ++ (Wire.word4 SH ++ Y))) := by rw [hform]; rfl
  have d2 : X.drop (1 + nm.length) = (k : Int) :: (Wire.word4 m ++ (Wire.word4 SH ++ Y)) := by
    rw [← List.drop_drop, d1, List.drop_left]
  have d3 : X.drop (1 + nm.length + 1) = Wire.word4 m ++ (Wire.word4 SH ++ Y) := by
    rw [← List.drop_drop, d2]; rfl
  have d4 : X.drop (1 + nm.length + 1 + 4) = Wire.word4 SH ++ Y := by
    rw [← List.drop_drop, d3]; rfl
  have d5 : X.drop (1 + nm.length + 1 + 4 + 4) = Y := by
    rw [← List.drop_drop, d4]; rfl
  have t5 : X.take (1 + nm.length + 1 + 4 + 4) = sumd (headB nm k m) := by
    rw [← hX, List.take_left']
    rw [sumd_len, head_len]; omega
  have e1 : Wire.rbyte X ⟨0, 0⟩ = ((nm.length : Int), ⟨1, 0⟩) := Wire.rbyte_at (show X.drop 0 = _ from hform)
  have e2 : Wire.rbytes X ⟨1, 0⟩ (nm.length : Int) = (nm, ⟨1 + nm.length, 0⟩) := by
    unfold Wire.rbytes
    rw [if_neg]
    · rw [d1, Int.toNat_natCast, List.take_left]
    · have : Wire.rleft X ⟨1, 0⟩ = X.length - 1 := by unfold Wire.rleft; rw [if_pos rfl]
      rw [this, hlen]; omega
  have e3 : Wire.rbyte X ⟨1 + nm.length, 0⟩ = ((k : Int), ⟨1 + nm.length + 1, 0⟩) := Wire.rbyte_at d2
  have e4 : Wire.rword X ⟨1 + nm.length + 1, 0⟩ = (m, ⟨1 + nm.length + 1 + 4, 0⟩) := Wire.rword_at d3 (by omega)
  have e5 : Wire.rword X ⟨1 + nm.length + 1 + 4, 0⟩ = (SH, ⟨1 + nm.length + 1 + 4 + 4, 0⟩) := Wire.rword_at d4 hSb
  rw [hX]
  unfold takeF
  simp only [e1, e2, e3, e4, e5]
  rw [if_neg (fun h => h rfl), t5, d5, if_neg, if_neg, if_pos hbad]
  · rw [hlen]; omega
  · unfold sumd; rw [hr]; decide
theorem bad_sum {Z : List Int} (hz : IsBytes Z) {M j : Nat} (h4 : 4 ≤ Z.length) (hM : M < 4294967296) (h0 : M ≠ 0) (h : crcs 0xffffffff#32 Z = RES ^^^ sts j (BitVec.ofNat 32 M)) : rightB Z = false := by
  cases hb : rightB Z with
  | false => rfl
  | true =>
    exfalso
    obtain ⟨_, h3⟩ := (rightB_iff hz).1 hb
    rw [h] at h3
    have h5 := congrArg (fun z => RES ^^^ z) h3
    simp only [← BitVec.xor_assoc, BitVec.xor_self, BitVec.zero_xor] at h5
    have h6 := congrArg BitVec.toNat (sts_eq_zero _ h5)
    rw [BitVec.toNat_ofNat] at h6
    simp only [BitVec.toNat_zero] at h6
    omega
theorem sumd_crc {xs : List Int} (h : IsBytes xs) : crcs 0xffffffff#32 (sumd xs) = RES := by
  have := put_right h
  exact ((rightB_iff (sumd_bytes h)).1 (by unfold sumd; exact this)).2
/-- What is not changed at all, or changed within 32 neighbours, in the part Y0 of a frame. -/
structure Part (X : List Int) (pre Y0 post : List Int) (n0 : BitVec 32) : Prop where
  whole : X = pre ++ Y0 ++ post
  crc : crcs n0 Y0 = RES
  bad : ∀ (Y : List Int) (M j : Nat), Y.length = Y0.length → IsBytes Y → M < 4294967296 → M ≠ 0 → crcs n0 Y = RES ^^^ sts j (BitVec.ofNat 32 M) → takeF (pre ++ Y ++ post) = .error 10
theorem part_head {nm pay : List Int} {k : Nat} (hn : IsBytes nm) (hp : IsBytes pay) (hc : checkF nm.length k pay.length = 0) :
    Part (frameB nm k pay) [(nm.length : Int)] ((sumd (headB nm k pay.length)).drop 1) (sumd pay) (by1 0xffffffff#32 (nm.length : Int)) ∧ ((sumd (headB nm k pay.length)).drop 1).length = nm.length + 9 := by
  obtain ⟨h1, h2, h3, h4⟩ := checkF_ok.1 hc
  have hh : sumd (headB nm k pay.length) = (nm.length : Int) :: (sumd (headB nm k pay.length)).drop 1 := by
    unfold sumd headB
    rfl
  have hcr := sumd_crc (head_bytes hn h2 (show k ≤ 255 by omega) pay.length)
  have hl : ((sumd (headB nm k pay.length)).drop 1).length = nm.length + 9 := by rw [List.length_drop, sumd_len, head_len]; omega
  generalize (sumd (headB nm k pay.length)).drop 1 = Y0 at hh hl ⊢
  refine ⟨⟨?_, ?_, ?_⟩, hl⟩
  · unfold frameB
    rw [hh]; rfl
  · rw [hh, crcs_cons] at hcr
    exact hcr
  · intro Y M j hYl hYb hM h0 hcY
    rw [hl] at hYl
    have hzb : IsBytes ((nm.length : Int) :: Y) := by
      intro x hx
      rcases List.mem_cons.1 hx with rfl | hx
      · omega
      · exact hYb x hx
    have hb := bad_sum hzb (by rw [List.length_cons]; omega) hM h0 (by rw [crcs_cons]; exact hcY)
    refine takeF_bad (nl := nm.length) (r := Y ++ sumd pay) rfl (by rw [List.length_append]; omega) ?_
    rw [show [(nm.length : Int)] ++ Y ++ sumd pay = ((nm.length : Int) :: Y) ++ sumd pay from rfl, List.take_left' (by rw [List.length_cons]; omega)]
    exact hb
theorem part_tail {nm pay : List Int} {k : Nat} (hn : IsBytes nm) (hp : IsBytes pay) (hc : checkF nm.length k pay.length = 0) :
    Part (frameB nm k pay) (sumd (headB nm k pay.length)) (sumd pay) [] 0xffffffff#32 ∧ (sumd (headB nm k pay.length)).length = nm.length + 10 := by
  obtain ⟨h1, h2, h3, h4⟩ := checkF_ok.1 hc
  refine ⟨⟨?_, sumd_crc hp, ?_⟩, by rw [sumd_len, head_len]⟩
  · unfold frameB
    rw [List.append_nil]
  · intro Y M j hYl hYb hM h0 hcY
    rw [sumd_len] at hYl
    rw [List.append_nil]
    exact takeF_tail hn h2 (by omega) h4 hYl (bad_sum hYb (by omega) hM h0 hcY)
theorem take_short {nm pay : List Int} {k : Nat} (hn : IsBytes nm) (hp : IsBytes pay) (hc : checkF nm.length k pay.length = 0) {i : Nat} (hi : i < (frameB nm k pay).length) : ∃ x, takeF ((frameB nm k pay).take i) = .error x ∧ x ≠ 0 := by
  obtain ⟨h1, h2, h3, h4⟩ := checkF_ok.1 hc
  cases h : takeF ((frameB nm k pay).take i) with
  | error x => exact ⟨x, rfl, takeF_err h⟩
  | ok t =>
    exfalso
    obtain ⟨nm2, k2, pay2⟩ := t
    obtain ⟨e, _, _, hc2⟩ := take_back (fun x hx => frame_bytes hn hp h2 (show k ≤ 255 by omega) x (List.mem_of_mem_take hx)) h
    have := frame_prefix (more := (frameB nm k pay).drop i) hc2 hc (by rw [← e, List.take_append_drop])
    have hl := congrArg List.length this
    rw [List.length_drop] at hl
    simp at hl
    omega
theorem take_long {nm pay more : List Int} {k : Nat} (hn : IsBytes nm) (hp : IsBytes pay) (hm : IsBytes more) (hc : checkF nm.length k pay.length = 0) (h0 : more ≠ []) : ∃ x, takeF (frameB nm k pay ++ more) = .error x ∧ x ≠ 0 := by
  obtain ⟨h1, h2, h3, h4⟩ := checkF_ok.1 hc
  cases h : takeF (frameB nm k pay ++ more) with
  | error x => exact ⟨x, rfl, takeF_err h⟩
  | ok t =>
    exfalso
    obtain ⟨nm2, k2, pay2⟩ := t
    obtain ⟨e, _, _, hc2⟩ := take_back (fun x hx => (List.mem_append.1 hx).elim (frame_bytes hn hp h2 (show k ≤ 255 by omega) x) (hm x)) h
    exact h0 (frame_prefix (more := more) hc hc2 e.symm)
end Go.Proofs.Ytfpeeilenocaoaa.Frame
