/- The writer of bits: its length, its bytes, ones and a nought; a new one; chapter 4's example. -/
import Derived.Test.YtlmelcfiegamaaaBitsW
import Derived.Test.YtlmelcfiegamaaaRely
namespace Go.Proofs.Ytlmelcfiegamaaa.Bits
open Go.RowKit Go.Proofs.Ytlmelcfiegamaaa.Own Go.Proofs.Ytlmelcfiegamaaa.Rely

theorem bw_c {p : Nat} {L : List Bool} {w : World} {S : Nat → Prop} (h : BW p L w S) : ∃ A c, w.cell? ⟨p, 0, none⟩ = some (.slice A (pack L).length c) ∧ w.cell? ⟨p, 1, none⟩ = some (.int .i64 L.length) ∧ Reads w .u8 A (pack L) := by
  obtain ⟨v, h⟩ := h
  obtain ⟨T, hT, _⟩ := h.comm.left
  obtain ⟨T2, hT2, _⟩ := h.left
  obtain ⟨A, c, rfl, _, hr, _⟩ := hT2.reads
  exact ⟨A, c, hT.cell 0, hT.cell 1, hr⟩

theorem below_of {S1 : Nat → Prop} {w w' : World} (h : Step (fun _ => False) S1 w w') : Below w.heap.size w w' := h.keep.below (Nat.le_refl _) (fun _ _ x => x)

set_option maxHeartbeats 1000000 in
theorem bytes_c (p : Nat) (L : List Bool) (hL : L.length ≤ 1000000000) (w : World) (S : Nat → Prop) (h : BW p L w S) : Calls Try.prog 49 #[.pointer (some ⟨p, 0, none⟩)] w
    fun e w' => ∃ A c, e = .returned (.slice A (pack L).length c) ∧ (pack L).length ≤ c ∧ Reads w' .u8 A (pack L) ∧ Below w.heap.size w w' := by
  obtain ⟨A, c, c0, _, hr⟩ := bw_c h
  have hl : (pack L).length ≤ 1000000000 := by rw [pack_length]; omega
  have hE := sepEmpty Lcl.emp (w := w) (S := fun _ => False) (fun _ x => x) 5 .u8
  have c4 : (w.alloc (.cells #[] 5)).cell? ⟨p, 0, none⟩ = some (.slice A (pack L).length c) := (((Below.refl w.heap.size w).alloc (Nat.le_refl _) (.cells #[] 5)).cell (p := ⟨p, 0, none⟩) (World.block_lt_of_cell? w _ c0)).trans c0
  have HR := Lib.hid (hr.later (w' := w.alloc (.cells #[] 5)) ((Below.refl _ _).alloc (Nat.le_refl _) _))
  have H := Lib.hid hE
  clear h hE hr
  generalize pack L = P at *
  go_enter Try.func49, Try.ntmps49
  go_wp2_with (at_builtin; refine append_row _ rfl _ _ 27 rfl 5 .u8 1 Try.underlying27 info_u8 (by decide) _ [] P A P.length c rfl rfl rfl Lcl.emp H.out.1 HR.out (by simp; omega) ?_; intro A' c' w' S' h' st'; have H' := Lib.hid h'; have ST' := Lib.hid st'; clear h' st')
  go_ret
  have h5 := H'.out
  simp only [List.length_nil, Nat.zero_add, List.nil_append] at h5
  have hb := below_of ((H.out.2).trans ST'.out)
  have h6 := Sep.left_of_emp h5
  obtain ⟨A2, c2, e2, h7, h8, _⟩ := h6.reads
  injection e2 with e3 _ e4
  subst e3 e4
  exact ⟨_, _, rfl, h7, h8, hb⟩

theorem new_bw {A : Asn} (hA : Lcl A) {w : World} {S : Nat → Prop} (h : A w S) :
    Sep (BW w.heap.size []) A (w.alloc (.cells #[.slice none 0 0, .int .i64 0] 83)) (fun b => b = w.heap.size ∨ S b) ∧ Step S (fun b => b = w.heap.size ∨ S b) w (w.alloc (.cells #[.slice none 0 0, .int .i64 0] 83)) := by
  have hs := Sep.alloc hA h #[.slice none 0 0, .int .i64 0] 83
  refine ⟨hs.1.imp_left fun T hT => ⟨.slice none 0 0, ?_⟩, hs.2⟩
  exact ⟨fun _ => False, T, Row.nil _ _ _, hT, fun _ x _ => x, fun k => by simp⟩

set_option maxHeartbeats 1000000 in
theorem unary_tri (p : Nat) (L : List Bool) (x : Int) (x0 : -1000000 ≤ x) (x1 : x ≤ 1000000) (hL : L.length ≤ 100000000) :
    Tri Try.prog 48 #[.pointer (some ⟨p, 0, none⟩), .int .i64 x] (BW p L) (fun e => Fact (e = .returned (.tuple #[])) (BW p (L ++ List.replicate x.toNat true ++ [false]))) := by
  intro w S h0
  have H0 := Lib.hid h0
  clear h0
  go_enter Try.func48, Try.ntmps48
  go_wp2_with fail
  go_loopw [1] (fun v wr => ∃ (j : Nat) (S' : Nat → Prop), j ≤ x.toNat ∧ v = .int .i64 (x - j) ∧ BW p (L ++ List.replicate j true) wr S' ∧ Step S S' w wr) (fun v _ => (intOf v).toNat)
  case atStart => exact ⟨0, S, by omega, by simp, by simpa using H0.out, Step.refl _ _⟩
  case round =>
    obtain ⟨j, S', hj, rfl, hw, hst⟩ := hrel
    have HW := Lib.hid hw
    have ST := Lib.hid hst
    clear hw hst
    by_cases hlt : j < x.toNat
    · have hgt : decide ((0 : Int) < x - j) = true := by simp; omega
      go_wp2_with fail
      have hp := put_tri p (L ++ List.replicate j true) 1 1 (by omega) (by omega) (by simp; omega)
      refine (hp _ _ HW.out).mono ?_
      rintro e w2 ⟨S2, ⟨rfl, h2⟩, st2⟩
      have H2 := Lib.hid h2
      have ST2 := Lib.hid (ST.out.trans st2)
      clear h2 st2 hp
      go_wp2_with fail
      go_roundw
      case rel =>
        refine ⟨j + 1, S2, by omega, ?_, ?_, ST2.out⟩
        · congr 1; omega
        · have h2 := H2.out
          have e : L ++ List.replicate j true ++ bitsOf 1 1 = L ++ List.replicate (j + 1) true := by
            rw [List.append_assoc, List.replicate_succ']; rfl
          rw [e] at h2
          exact h2
      case measure => first | (simp [intOf]; done) | (simp [intOf]; omega)
    · obtain rfl : j = x.toNat := by omega
      have hgt : decide ((0 : Int) < x - (x.toNat : Int)) = false := by simp; omega
      go_wp2_with fail
      have hp := put_tri p (L ++ List.replicate x.toNat true) 0 1 (by omega) (by omega) (by simp; omega)
      refine (hp _ _ HW.out).mono ?_
      rintro e w2 ⟨S2, ⟨rfl, h2⟩, st2⟩
      have H2 := Lib.hid h2
      have ST2 := Lib.hid (ST.out.trans st2)
      clear h2 st2 hp
      go_wp2_with fail
      go_end0
      exact ⟨S2, ⟨rfl, H2.out⟩, ST2.out⟩

theorem awake_bits : pack ([] ++ List.replicate (3 : Int).toNat true ++ [false] ++ bitsOf 5 3) = [234] := by decide +kernel

end Go.Proofs.Ytlmelcfiegamaaa.Bits
