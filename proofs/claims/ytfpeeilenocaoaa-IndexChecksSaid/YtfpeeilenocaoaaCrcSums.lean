/- The law CrcSums: any bytes: their sum; with it behind they are right. -/
import Derived.Test.YtfpeeilenocaoaaCrcD
import Derived.Test.YtfpeeilenocaoaaCrcAny
namespace Go.Proofs.Ytfpeeilenocaoaa.Crc
open Go.RowKit Go.Proofs.Ytfpeeilenocaoaa.Own Go.Proofs.Ytfpeeilenocaoaa.Rely

theorem put_right {xs : List Int} (hx : IsBytes xs) : rightB (xs ++ wd (sum xs).toNat) = true := by
  have hl : (xs ++ wd (sum xs).toNat).length = xs.length + 4 := by simp [wd]
  unfold rightB
  rw [hl, decide_eq_true_eq, show xs.length + 4 - 4 = xs.length by omega, List.drop_left, List.take_left]
  exact ⟨by omega, rfl⟩
theorem changed_right {x : List Int} (hx : IsBytes x) (hr : rightB x = true) {p : Nat} (hp : p < x.length) {e : Int} (he : 0 ≤ e ∧ e ≤ 255) (hy : IsBytes (x.set p (bits .xor .u8 (x.getD p 0) e))) : rightB (x.set p (bits .xor .u8 (x.getD p 0) e)) = decide (e = 0) := by
  have h1 := (rightB_iff hx).1 hr
  have h2 : rightB (x.set p (bits .xor .u8 (x.getD p 0) e)) = true ↔ e = 0 := by
    rw [rightB_iff hy, List.length_set, crcs_set _ _ _ _ hp hx he, h1.2]
    constructor
    · rintro ⟨_, h3⟩
      have h4 : sts (8 * (x.length - p)) (BitVec.ofInt 32 e) = 0#32 := by
        have h5 := congrArg (fun z => RES ^^^ z) h3
        simp only [← BitVec.xor_assoc, BitVec.xor_self, BitVec.zero_xor] at h5
        exact h5
      have h6 := congrArg BitVec.toNat (sts_eq_zero _ h4)
      rw [BitVec.toNat_ofInt] at h6
      simp only [BitVec.toNat_zero] at h6
      omega
    · rintro rfl
      refine ⟨h1.1, ?_⟩
      rw [show BitVec.ofInt 32 0 = 0#32 by decide, sts_zero, BitVec.xor_zero]
  by_cases h : e = 0
  · rw [decide_eq_true h]; exact h2.2 h
  · rw [decide_eq_false h]
    cases hb : rightB (x.set p (bits .xor .u8 (x.getD p 0) e)) with
    | false => rfl
    | true => exact absurd (h2.1 hb) h
theorem set_bytes {x : List Int} (hx : IsBytes x) (p : Nat) {e : Int} (he : 0 ≤ e ∧ e ≤ 255) : IsBytes (x.set p e) := by
  intro z hz
  rcases List.mem_or_eq_of_mem_set hz with hz | rfl
  · exact hx z hz
  · exact he

theorem readsAny {e : TypeId} {k : IntKind} {A : Option Addr} {n c : Nat} {xs : List Int} {w : World} {S : Nat → Prop} (h : Row e k (.slice A n c) xs w S) : Reads w k A xs ∧ xs.length ≤ c ∧ c ≤ maxLen := by
  obtain ⟨A', c', q, hc, hr, _⟩ := h.reads
  obtain ⟨A2, c2, q2, h2, h3⟩ := h.shape
  injection q with q1 q3 q4
  injection q2 with q5 q6 q7
  subst q1 q4 q7
  exact ⟨hr, hc, h3⟩

end Go.Proofs.Ytfpeeilenocaoaa.Crc
