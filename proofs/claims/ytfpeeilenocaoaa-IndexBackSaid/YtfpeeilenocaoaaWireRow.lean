/- The document's Uint: a row of its own. -/
import Derived.Test.YtfpeeilenocaoaaWireRef
namespace Go.Proofs.Ytfpeeilenocaoaa.Wire
open Go.RowKit Go.Proofs.Ytfpeeilenocaoaa.Own Go.Proofs.Ytfpeeilenocaoaa.Rely
attribute [local go_sem] max_ints min_ints
def MadeR (w : World) (e : Ending) (xs : List Int) (w' : World) : Prop := ∃ A c S', e = .returned (.slice A xs.length c) ∧ Row 5 .u8 (.slice A xs.length c) xs w' S' ∧ Step (fun _ => False) S' w w'
theorem madeR_of {w w' : World} {v : Value} {xs : List Int} {S' : Nat → Prop} (h : Row 5 .u8 v xs w' S') (st : Step (fun _ => False) S' w w') : MadeR w (.returned v) xs w' := by
  obtain ⟨A, c, rfl, _⟩ := h.shape
  exact ⟨A, c, S', rfl, h, st⟩

set_option maxHeartbeats 2000000 in
set_option maxRecDepth 20000 in
theorem refUint_row (n : Nat) (hn : U64 n) (w : World) : Calls Try.prog 26 #[.int .u64 n] w fun e w' => MadeR w e (enc n) w' := by
  have HN := Lib.hid hn
  have hlen := enc_ten hn
  clear hn
  go_enter Try.func26, Try.ntmps26
  go_wp2_with fail
  go_loopw [0, 3] (fun v0 v3 wr => ∃ (m : Nat) (l : List Int) (S' : Nat → Prop), U64 m ∧ l ++ enc m = enc n ∧ v0 = .int .u64 m ∧ Row 5 .u8 v3 l wr S' ∧ Step (fun _ => False) S' w wr) (fun v0 _ _ => (intOf v0).toNat)
  case atStart => exact ⟨n, [], fun _ => False, HN.out, by simp, rfl, Row.nil _ _ _, Step.refl _ _⟩
  case round =>
    obtain ⟨m, l, S', hm, hl, rfl, hw, hst⟩ := hrel
    have hll : l.length ≤ 10 := by have := congrArg List.length hl; rw [List.length_append] at this; omega
    have HV := Lib.hid hw.sepEmp
    have ST := Lib.hid hst
    have HM := Lib.hid hm
    have HL := Lib.hid hl
    clear hw hst hl
    have hm : m < 18446744073709551616 := hm
    by_cases hlt : 128 ≤ m
    · obtain ⟨z, hz⟩ : ∃ z : Int, (m : Int) % 128 + 128 = z := ⟨_, rfl⟩
      have hz0 : 0 ≤ z := by omega
      have hz1 : z ≤ 255 := by omega
      have hg : decide ((128 : Int) ≤ (m : Int)) = true := by simp; omega
      have HE : RowKit.Hid ((l ++ [z]) ++ enc (m / 128) = enc n) := Lib.hid (by
        rw [← HL.out, List.append_assoc, enc_big (n := m) (by omega)]
        congr 2
        simp only [List.singleton_append, List.cons.injEq, and_true]
        omega)
      have HQ : RowKit.Hid ((m : Int) / 128 = ((m / 128 : Nat) : Int)) := Lib.hid (by omega)
      have HU : RowKit.Hid (U64 (m / 128)) := Lib.hid (by have : m < 18446744073709551616 := HM.out; show m / 128 < 18446744073709551616; omega)
      go_wp2_with (at_builtin; refine append_lit _ 5 rfl _ _ 22 rfl .u8 1 Try.underlying22 info_u8 (by decide) _ l [z] 1 1 rfl rfl rfl rfl Lcl.emp HV.out (by simp only [List.length_cons, List.length_nil]; omega) ?_; intro A' c' w' S2 h' st'; have H' := Lib.hid (Sep.left_of_emp h'); have ST' := Lib.hid st'; clear h' st')
      rw [HQ.out]
      go_roundw
      case rel => exact ⟨m / 128, l ++ [z], S2, HU.out, HE.out, rfl, H'.out, ST.out.trans ST'.out⟩
      case measure => first | (simp [intOf]; done) | (simp [intOf]; omega)
    · have hg : decide ((128 : Int) ≤ (m : Int)) = false := by simp; omega
      have hm256 : (m : Int) % 256 = m := by omega
      have HE : RowKit.Hid (l ++ [(m : Int)] = enc n) := Lib.hid (by rw [← HL.out, enc_small (n := m) (by omega)])
      go_wp2_with (at_builtin; refine append_lit _ 5 rfl _ _ 22 rfl .u8 1 Try.underlying22 info_u8 (by decide) _ l [(m : Int)] 1 1 rfl rfl rfl rfl Lcl.emp HV.out (by simp only [List.length_cons, List.length_nil]; omega) ?_; intro A' c' w' S2 h' st'; rw [HE.out] at h'; have H' := Lib.hid (Sep.left_of_emp h'); have ST' := Lib.hid st'; clear h' st')
      go_ret
      exact madeR_of H'.out (ST.out.trans ST'.out)

end Go.Proofs.Ytfpeeilenocaoaa.Wire
