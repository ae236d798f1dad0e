/- P6.1, without the document's answer: the first number that isn't below one is at the place that Select tells; those ahead are below it: at every input. -/
import Derived.Test.YtlmelcfiegamaaaPFanoRanksx1
import Derived.Test.YtlmelcfiegamaaaFanoR
namespace Go.Proofs.Ytlmelcfiegamaaa.Pure
open Go.RowKit Go.Proofs.Ytlmelcfiegamaaa.PFanoRanks Go.Proofs.YtlmelcfiegamaaaW.PrintWords Go.Proofs.YtlmelcfiegamaaaW.PrintLast Go.Proofs.YtlmelcfiegamaaaW.PrintMore Go.Proofs.Ytlmelcfiegamaaa.Fano Go.Proofs.Ytlmelcfiegamaaa.Bits

theorem of_f {l : List Int} (hn : NF l) (hu : U32s l) (hl : l.length ≤ 4096) : fano_Of.f l = some ((l.length : Int), (lastN l : Int), (lowF l : Int), lowsF l, highF l, 0) := if_pos ((nfB_iff l).2 ⟨hn, hu, hl⟩)
theorem from_f {l : List Int} (hn : NF l) (hu : U32s l) (hl : l.length ≤ 4096) (m : Int) : fano_Row_From.f l.length (lastN l) (lowF l) (lowsF l) (highF l) m = some (fromR l m) := by
  unfold fano_Row_From.f; rw [rowOf_eq hn hu hl]; rfl
theorem sel_f {l : List Int} (hn : NF l) (hu : U32s l) (hl : l.length ≤ 4096) (i : Int) (hi : -9223372036854775808 ≤ i ∧ i ≤ 9223372036854775807) : fano_Row_Select.f l.length (lastN l) (lowF l) (lowsF l) (highF l) i = some (selR l i) := by
  unfold fano_Row_Select.f; rw [if_pos hi, rowOf_eq hn hu hl]; rfl
theorem slow_f {l0 l1 : List Int} (h0 : ∀ x ∈ l0, (Lit.int .u16 x).wf = true) (h1 : ∀ x ∈ l1, (Lit.int .u32 x).wf = true) (hl0 : l0.length ≤ 60) (hl1 : l1.length * 4 ≤ 140737488351232) : herbariumlaw06_Slow.f l0 l1 = some (slowL l0 l1) := by
  unfold herbariumlaw06_Slow.f
  refine if_pos ⟨?_, ?_, by omega, by omega⟩
  · rw [List.all_eq_true]; intro x hx; have := h0 x hx; simpa [Lit.wf, IntKind.min, IntKind.max, IntKind.signed, IntKind.bits] using this
  · rw [List.all_eq_true]; intro x hx; have := h1 x hx; simpa [Lit.wf, IntKind.min, IntKind.max, IntKind.signed, IntKind.bits] using this
theorem FanoRanks : herbariumlaw06_FanoRanks.Pure := by
  intro l0 l1 m _ h02 h0w _ h12 h1w hm
  have hA : herbariumlaw06_Awake.f = some true := rfl
  unfold herbariumlaw06_FanoRanks.f
  rw [hA, Option.bind_some, if_pos rfl]
  by_cases h60 : (l0.length : Int) > 60
  · rw [if_pos h60]
  rw [if_neg h60, slow_f h0w h1w (by omega) h12, Option.bind_some]
  have hn : NF (slowL l0 l1) := slowG_nf _ _ _ _
  have hu : U32s (slowL l0 l1) := slowG_u32 _ _ _ _
  have hl : (slowL l0 l1).length ≤ 60 := Nat.le_trans (slowG_len l1 l0 0 0) (by omega)
  generalize slowL l0 l1 = L at *
  rw [of_f hn hu (by omega), Option.bind_some]
  dsimp only
  rw [from_f hn hu (by omega), Option.bind_some, if_pos rfl]
  obtain ⟨f1, f2, f3⟩ := fromN_spec L m
  have hlast : ∀ L : List Int, ∀ a b c d e, fano_Row_Last.f a b c d e = some b := fun _ _ _ _ _ _ => rfl
  have hlen : ∀ a b c d e, fano_Row_Len.f a b c d e = some a := fun _ _ _ _ _ => rfl
  by_cases hf : fromN L m < L.length
  · have hR : fromR L m = ((val L (fromN L m) : Int), (fromN L m : Int), true) := if_pos hf
    rw [hR]
    dsimp only
    rw [if_pos rfl, sel_f hn hu (by omega) _ (by omega), Option.bind_some]
    have hw : wrap64 ((fromN L m : Int) - 1) = (fromN L m : Int) - 1 := by unfold wrap64; omega
    rw [hw, sel_f hn hu (by omega) _ (by omega), Option.bind_some]
    have hS : selR L (fromN L m : Int) = ((val L (fromN L m) : Int), true) := by unfold selR; rw [if_pos (by omega), Int.toNat_natCast]
    rw [hS]
    dsimp only
    have hge : lastN L ≥ val L (fromN L m) := val_mono hn hu (show fromN L m ≤ L.length - 1 by omega) (by omega)
    have hle := f3 hf
    rw [if_pos rfl, if_pos rfl, if_pos hle]
    by_cases h0 : fromN L m = 0
    · have hS2 : selR L ((fromN L m : Int) - 1) = (0, false) := by unfold selR; rw [if_neg (by omega)]
      rw [hS2]
      dsimp only
      rw [if_pos (by rw [h0]; rfl), if_neg (by decide), hlast L, Option.bind_some]
      exact congrArg some (decide_eq_true (by omega))
    · have hS2 : selR L ((fromN L m : Int) - 1) = ((val L (fromN L m - 1) : Int), true) := by
        unfold selR; rw [if_pos (by omega), show ((fromN L m : Int) - 1).toNat = fromN L m - 1 by omega]
      have hb := f2 (fromN L m - 1) (by omega)
      rw [hS2]
      dsimp only
      rw [if_pos (by rw [show ((fromN L m : Int) == 0) = false by rw [beq_eq_false_iff_ne]; omega]; rfl), if_pos rfl, if_pos hb, hlast L, Option.bind_some]
      exact congrArg some (decide_eq_true (by omega))
  · have hR : fromR L m = (0, 0, false) := if_neg hf
    rw [hR]
    dsimp only
    rw [if_neg (by decide), hlen, Option.bind_some]
    by_cases h0 : L.length = 0
    · rw [if_pos (by omega)]
    · rw [if_neg (by omega), hlast L, Option.bind_some]
      have := f2 (L.length - 1) (by omega)
      exact congrArg some (decide_eq_true this)
end Go.Proofs.Ytlmelcfiegamaaa.Pure
