/- The fixed fact of chapter 5: what Put makes of 1, 2, 3. -/
import Derived.Test.YtlmelcfiegamaaaRicePut
namespace Go.Proofs.Ytlmelcfiegamaaa.Rice
open Go.RowKit Go.Proofs.Ytlmelcfiegamaaa.Own Go.Proofs.Ytlmelcfiegamaaa.Rely Go.Proofs.Ytlmelcfiegamaaa.Bits Go.Proofs.Ytlmelcfiegamaaa.Wire
attribute [local go_sem] max_ints min_ints

theorem rises123 : Rises [1, 2, 3] := by
  intro i hi
  match i, hi with
  | 0, _ => decide
  | 1, _ => decide
theorem u123 : U64s [1, 2, 3] := by intro x hx; simp only [List.mem_cons, List.not_mem_nil, or_false] at hx; rcases hx with rfl | rfl | rfl <;> decide
theorem enc3 : enc 3 = [3] := enc_small (by decide)
theorem enc1 : enc 1 = [1] := enc_small (by decide)
theorem rice123 : riceB (gaps [1, 2, 3]) = [3, 0, 1, 128] := by
  have h1 : gaps [1, 2, 3] = [1, 0, 0] := by decide
  have h2 : param [1, 0, 0] = 0 := by decide +kernel
  have h3 : pack (bitsL 0 [1, 0, 0]) = [128] := by decide +kernel
  unfold riceB
  rw [h1, h2, h3]
  show enc 3 ++ [(0 : Int)] ++ enc 1 ++ [128] = _
  rw [enc3, enc1]; rfl

set_option maxHeartbeats 2000000 in
theorem awake5 (w : World) : Calls Try.prog 21 #[] w fun e w' => e = .returned (.bool true) ∧ Below w.heap.size w w' := by
  go_enter Try.func21, Try.ntmps21
  go_wp2_with fail
  have hR := (Row.lit 37 .u64 [1, 2, 3] w (by decide)).readsAt
  have hb1 : Ext w (w.alloc (.cells #[.int .u64 1, .int .u64 2, .int .u64 3] 37)) := (Below.refl _ _).alloc (Nat.le_refl _) _
  have HB1 := Lib.hid hb1
  clear hb1
  refine (put_rises (some ⟨w.heap.size, 0, none⟩) 3 [1, 2, 3] _ hR (by decide) u123 rises123).mono ?_
  rintro e w2 ⟨A, c, rfl, hr, hx, _, _⟩
  rw [rice123] at hr ⊢
  have hcv : (convert 27 9 (.slice A 4 c)).run Try.prog w2 = .ok (.string (strOfNums [3, 0, 1, 128])) w2 := hr.string (P := Try.prog) Try.underlying27 Try.underlying5 Try.underlying9 c
  have hlit : ((strOfNums [3, 0, 1, 128]).toList == [3, 0, 1, 128]) = true := by rw [strOfNums_toList]; decide
  have HB := Lib.hid (Ext.trans _ _ _ HB1.out hx)
  clear hr hx
  go_wp2_with fail
  go_ret
  exact ⟨rfl, HB.out⟩
end Go.Proofs.Ytlmelcfiegamaaa.Rice
