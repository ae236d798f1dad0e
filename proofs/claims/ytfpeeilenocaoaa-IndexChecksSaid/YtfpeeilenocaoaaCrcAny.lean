/- The law CrcAny: any bytes: whether they end with their sum. -/
import Derived.Test.YtfpeeilenocaoaaCrcC
namespace Go.Proofs.Ytfpeeilenocaoaa.Crc
open Go.RowKit Go.Proofs.Ytfpeeilenocaoaa.Own Go.Proofs.Ytfpeeilenocaoaa.Rely

theorem str_app (a b : List Int) : strOfNums a ++ strOfNums b = strOfNums (a ++ b) := by
  apply ByteArray.ext
  simp [strOfNums]

theorem right_str {xs Y : List Int} {k : Nat} (hb : IsBytes xs) (hk : xs.length = k + 4) (hY : xs.take k ++ wd (sum (xs.take k)).toNat = Y) : ((strOfNums xs).toList == (strOfNums Y).toList) = rightB xs := by
  have hYb : IsBytes Y := by
    rw [← hY]
    intro x hx
    rcases List.mem_append.1 hx with hx | hx
    · exact take_bytes hb k x hx
    · exact wd_bytes _ x hx
  unfold rightB
  rw [show xs.length - 4 = k by omega]
  by_cases h : xs.drop k = wd (sum (xs.take k)).toNat
  · rw [decide_eq_true ⟨by omega, h⟩]
    exact str_eq (by rw [← hY, ← h, List.take_append_drop])
  · rw [decide_eq_false (fun q => h q.2)]
    refine str_ne hb hYb (fun q => h ?_)
    have h3 : xs.take k ++ xs.drop k = xs.take k ++ wd (sum (xs.take k)).toNat := (List.take_append_drop k xs).trans (q.trans hY.symm)
    exact List.append_cancel_left h3

end Go.Proofs.Ytfpeeilenocaoaa.Crc
