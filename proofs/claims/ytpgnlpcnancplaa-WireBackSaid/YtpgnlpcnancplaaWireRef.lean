/- The document's bytes of numbers: they are the writer's. -/
import Derived.Test.YtpgnlpcnancplaaWireJoins
namespace Go.Proofs.Ytpgnlpcnancplaa.Wire
open Go.RowKit Go.Proofs.Ytpgnlpcnancplaa.Own Go.Proofs.Ytpgnlpcnancplaa.Rely
attribute [local go_sem] max_ints min_ints

/-- What a call answers that makes a row of bytes of its own. -/
def Made (w : World) (e : Ending) (xs : List Int) (w' : World) : Prop := ∃ A c, e = .returned (.slice A xs.length c) ∧ Reads w' .u8 A xs ∧ Ext w w'
theorem made_of {w w' : World} {v : Value} {xs : List Int} {S' : Nat → Prop} (h : Row 5 .u8 v xs w' S') (st : Step (fun _ => False) S' w w') : Made w (.returned v) xs w' := by
  obtain ⟨A, c, rfl, _, hr, _⟩ := h.reads
  exact ⟨A, c, rfl, hr, belowF st⟩

set_option maxHeartbeats 2000000 in
set_option maxRecDepth 20000 in
theorem refUint_c (n : Nat) (hn : U64 n) (w : World) : Calls Try.prog 48 #[.int .u64 n] w fun e w' => Made w e (enc n) w' := by
  have HN := Lib.hid hn
  have hlen := enc_ten hn
  clear hn
  go_enter Try.func48, Try.ntmps48
  go_wp2_with fail
  go_loopw [0, 3] (fun v0 v3 wr => ∃ (m : Nat) (l : List Int) (S' : Nat → Prop), U64 m ∧ l ++ enc m = enc n ∧ v0 = .int .u64 m ∧ Row 5 .u8 v3 l wr S' ∧ Step (fun _ => False) S' w wr) (fun v0 _ _ => (intOf v0).toNat)
  case atStart => exact ⟨n, [], fun _ => False, HN.out, by simp, rfl, Row.nil _ _ _, Step.refl _ _⟩
  case round =>
    obtain ⟨m, l, S', hm, hl, rfl, hw, hst⟩ := hrel
    have hll : l.length ≤ 10 := by have := congrArg List.length hl; rw [List.length_append] at this; omega
    have HV := Lib.hid hw.sepEmp
    have ST := Lib.hid hst
    have HM := Lib.hid hm
    have HL := Lib.hid hl
    clear hw hst hl
    have hm : m < 18446744073709551616 := hm
    by_cases hlt : 128 ≤ m
    · obtain ⟨z, hz⟩ : ∃ z : Int, (m : Int) % 128 + 128 = z := ⟨_, rfl⟩
      have hz0 : 0 ≤ z := by omega
      have hz1 : z ≤ 255 := by omega
      have hg : decide ((128 : Int) ≤ (m : Int)) = true := by simp; omega
      have HE : RowKit.Hid ((l ++ [z]) ++ enc (m / 128) = enc n) := Lib.hid (by
        rw [← HL.out, List.append_assoc, enc_big (n := m) (by omega)]
        congr 2
        simp only [List.singleton_append, List.cons.injEq, and_true]
        omega)
      have HQ : RowKit.Hid ((m : Int) / 128 = ((m / 128 : Nat) : Int)) := Lib.hid (by omega)
      have HU : RowKit.Hid (U64 (m / 128)) := Lib.hid (by have : m < 18446744073709551616 := HM.out; show m / 128 < 18446744073709551616; omega)
      go_wp2_with (at_builtin; refine append_lit _ 5 rfl _ _ 26 rfl .u8 1 Try.underlying26 info_u8 (by decide) _ l [z] 1 1 rfl rfl rfl rfl Lcl.emp HV.out (by simp only [List.length_cons, List.length_nil]; omega) ?_; intro A' c' w' S2 h' st'; have H' := Lib.hid (Sep.left_of_emp h'); have ST' := Lib.hid st'; clear h' st')
      rw [HQ.out]
      go_roundw
      case rel => exact ⟨m / 128, l ++ [z], S2, HU.out, HE.out, rfl, H'.out, ST.out.trans ST'.out⟩
      case measure => first | (simp [intOf]; done) | (simp [intOf]; omega)
    · have hg : decide ((128 : Int) ≤ (m : Int)) = false := by simp; omega
      have hm256 : (m : Int) % 256 = m := by omega
      have HE : RowKit.Hid (l ++ [(m : Int)] = enc n) := Lib.hid (by rw [← HL.out, enc_small (n := m) (by omega)])
      go_wp2_with (at_builtin; refine append_lit _ 5 rfl _ _ 26 rfl .u8 1 Try.underlying26 info_u8 (by decide) _ l [(m : Int)] 1 1 rfl rfl rfl rfl Lcl.emp HV.out (by simp only [List.length_cons, List.length_nil]; omega) ?_; intro A' c' w' S2 h' st'; rw [HE.out] at h'; have H' := Lib.hid (Sep.left_of_emp h'); have ST' := Lib.hid st'; clear h' st')
      go_ret
      exact made_of H'.out (ST.out.trans ST'.out)

set_option maxHeartbeats 1000000 in
theorem refInt_c (n : Int) (n0 : -9223372036854775808 ≤ n) (n1 : n ≤ 9223372036854775807) (w : World) : Calls Try.prog 49 #[.int .i64 n] w fun e w' => Made w e (enc (Bit.zig n)) w' := by
  obtain ⟨u, hu⟩ : ∃ u, u = Bit.zig n := ⟨_, rfl⟩
  have huu : U64 u := by rw [hu]; exact Bit.zig_lt n0 n1
  rw [← hu]
  by_cases h : n < 0
  · have hv : (-(n + 1)) * 2 + 1 = (u : Int) := by rw [hu]; unfold Bit.zig; rw [if_neg (by omega)]; omega
    have hg : decide (n < 0) = true := by simp; omega
    clear hu
    go_enter Try.func49, Try.ntmps49
    go_wp2_with fail
    refine (refUint_c u huu _).mono ?_
    rintro e w2 ⟨A, c, rfl, hr, hx⟩
    have HR := Lib.hid (And.intro hr hx)
    clear hr hx
    go_wp2_with fail
    go_ret
    exact ⟨A, c, rfl, HR.out.1, HR.out.2⟩
  · have hv : n * 2 = (u : Int) := by rw [hu]; unfold Bit.zig; rw [if_pos (by omega)]; omega
    have hg : decide (n < 0) = false := by simp; omega
    clear hu
    go_enter Try.func49, Try.ntmps49
    go_wp2_with fail
    refine (refUint_c u huu _).mono ?_
    rintro e w2 ⟨A, c, rfl, hr, hx⟩
    have HR := Lib.hid (And.intro hr hx)
    clear hr hx
    go_wp2_with fail
    go_ret
    exact ⟨A, c, rfl, HR.out.1, HR.out.2⟩

set_option maxHeartbeats 1000000 in
theorem refWord_c (n : Nat) (hn : n ≤ 4294967295) (w : World) : Calls Try.prog 50 #[.int .u32 n] w fun e w' => Made w e (word4 n) w' := by
  go_enter Try.func50, Try.ntmps50
  go_wp2_with fail
  go_ret
  have h := Row.lit 5 .u8 (word4 n) w (by simp [word4])
  have he : (word4 n).map (Value.int .u8) = [.int .u8 (↑n % 256), .int .u8 (↑n / 256 % 256), .int .u8 (↑n / 65536 % 256), .int .u8 (↑n / 16777216)] := by simp [word4]
  rw [he] at h
  exact made_of (xs := word4 n) h ⟨(Keep.refl _ w).alloc _, fun b hb => .inr (by rw [hb]; exact Nat.le_refl _)⟩
end Go.Proofs.Ytpgnlpcnancplaa.Wire
