/- P1, P20.1: any bytes, with right sums or not: a frame whose bytes they are, or an error: at every input, without conditions. -/
import Derived.Test.YtfpeeilenocaoaaFrameP
import Derived.Test.YtfpeeilenocaoaaFrameR
namespace Go.Proofs.Ytfpeeilenocaoaa.Frame
open Go.RowKit Go.Proofs.Ytfpeeilenocaoaa.Own Go.Proofs.Ytfpeeilenocaoaa.Rely Go.Proofs.Ytfpeeilenocaoaa.Crc
attribute [local go_sem] max_ints min_ints

theorem takeF_err {xs : List Int} {x : Int} (h : takeF xs = .error x) : x ≠ 0 := by
  unfold takeF at h
  simp only at h
  split at h
  · cases h; assumption
  split at h
  · cases h; decide
  split at h
  · cases h; decide
  split at h
  · cases h; decide
  split at h
  · cases h; assumption
  · cases h
theorem conv_bytes2 {xs : List Int} (hb : IsBytes xs) (hl : xs.length ≤ 1000000) (w : World) : ∃ c w', (convert 9 22 (.string (strOfNums xs))).run Try.prog w = .ok (.slice (some ⟨w.heap.size, 0, none⟩) xs.length c) w' ∧ Reads w' .u8 (some ⟨w.heap.size, 0, none⟩) xs ∧ Ext w w' ∧ xs.length ≤ c ∧ c ≤ 9223372036854775807 := by
  obtain ⟨c, w', h1, h2, h3⟩ := conv_bytes hb w
  have hrun := Lib.run_convert_string_bytes (P := Try.prog) w 9 22 5 (strOfNums xs) Try.underlying9 Try.underlying22 Try.underlying5
  rw [Crc.size_str, h1] at hrun
  injection hrun with e1 e2
  injection e1 with _ _ e3
  subst e3
  refine ⟨_, _, h1, h2, h3, grownCap_ge _ _ _ _, ?_⟩
  have := grownCap_le_maxLen w xs.length 0 5 (by simp only [maxLen]; omega)
  simp only [maxLen] at this
  omega
end Go.Proofs.Ytfpeeilenocaoaa.Frame
