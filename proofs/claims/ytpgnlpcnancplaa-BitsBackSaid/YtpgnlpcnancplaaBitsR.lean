/- The reader of bits: what each call answers and leaves. -/
import Derived.Test.YtpgnlpcnancplaaBitsV
import Derived.Deep.QuietTactic
import Derived.BigQuiet
import Derived.Laws.Shifts
import Derived.Laws.ShiftsVar
import Derived.Laws.ShiftsVarLaws
namespace Go.Proofs.Ytpgnlpcnancplaa.Bits
open Go.RowKit Go.Proofs.Ytpgnlpcnancplaa.Own Go.Proofs.Ytpgnlpcnancplaa.Rely
attribute [local go_sem] max_ints min_ints

/-- The bit at a place of a row of bytes. -/
def bitAt (B : List Int) (i : Nat) : Bool := (B.getD (i / 8) 0).toNat.testBit (7 - i % 8)
/-- A reader at block p, over a slice of the bytes B, behind it a piece F that tells them. -/
def RD (p : Nat) (A : Option Addr) (c : Nat) (B : List Int) (at_ : Nat) (sh : Bool) (F : Asn) : Asn := Sep (Blk p #[.slice A B.length c, .int .i64 at_, .bool sh] 78) F

theorem rd_set2 {p : Nat} {v0 v1 v2 v : Value} {t : TypeId} {F : Asn} (hF : Lcl F) {w : World} {S : Nat → Prop} (h : Sep (Blk p #[v0, v1, v2] t) F w S) :
    Sep (Blk p #[v0, v1, v] t) F (w.setCell ⟨p, 2, none⟩ v) S ∧ Step S S w (w.setCell ⟨p, 2, none⟩ v) := by
  obtain ⟨S1, S2, h1, h2, d, q⟩ := h
  have hs := Blk.set h1 2 v
  have hS : S = fun k => S1 k ∨ S2 k := funext fun k => propext (q k)
  have := Sep.step (A' := Blk p #[v0, v1, v] t) hF h2 d hs.1 hs.2
  rw [hS]
  exact this
theorem rd_set1 {p : Nat} {v0 v1 v2 v : Value} {t : TypeId} {F : Asn} (hF : Lcl F) {w : World} {S : Nat → Prop} (h : Sep (Blk p #[v0, v1, v2] t) F w S) :
    Sep (Blk p #[v0, v, v2] t) F (w.setCell ⟨p, 1, none⟩ v) S ∧ Step S S w (w.setCell ⟨p, 1, none⟩ v) := by
  obtain ⟨S1, S2, h1, h2, d, q⟩ := h
  have hs := Blk.set h1 1 v
  have hS : S = fun k => S1 k ∨ S2 k := funext fun k => propext (q k)
  have := Sep.step (A' := Blk p #[v0, v, v2] t) hF h2 d hs.1 hs.2
  rw [hS]
  exact this
theorem rd_cells {p : Nat} {v0 v1 v2 : Value} {t : TypeId} {F : Asn} {w : World} {S : Nat → Prop} (h : Sep (Blk p #[v0, v1, v2] t) F w S) :
    w.cell? ⟨p, 0, none⟩ = some v0 ∧ w.cell? ⟨p, 1, none⟩ = some v1 ∧ w.cell? ⟨p, 2, none⟩ = some v2 ∧ w.frozen? ⟨p, 1, none⟩ = false ∧ w.frozen? ⟨p, 2, none⟩ = false := by
  obtain ⟨T, hT, _⟩ := h.left
  exact ⟨hT.cell 0, hT.cell 1, hT.cell 2, hT.free 1, hT.free 2⟩

theorem bit_code (z : Int) (h0 : 0 ≤ z) (h1 : z ≤ 255) (j : Nat) : Go.bits .and .u8 (z / 2 ^ j) 1 = if z.toNat.testBit j then 1 else 0 := by
  obtain ⟨n, rfl⟩ := Int.eq_ofNat_of_zero_le h0
  rw [Bit.and8]
  have e : (n : Int) / 2 ^ j = ((n / 2 ^ j : Nat) : Int) := by rw [Int.natCast_ediv, Int.natCast_pow]; rfl
  have hx : n / 2 ^ j ≤ 255 := Nat.le_trans (Nat.div_le_self _ _) (by omega)
  rw [e, BitVec.ofInt_natCast, show BitVec.ofInt 8 1 = 1#8 from rfl, BitVec.toNat_and, BitVec.toNat_ofNat]
  show ((n / 2 ^ j % 2 ^ 8 &&& 1 : Nat) : Int) = _
  rw [Nat.and_one_is_mod, Int.toNat_natCast, Nat.testBit_eq_decide_div_mod_eq]
  by_cases hb : n / 2 ^ j % 2 = 1
  · rw [decide_eq_true hb, if_pos rfl]; omega
  · rw [decide_eq_false hb, if_neg (by decide)]; omega

theorem drewN_of {A : Asn} (hA : Lcl A) {w : World} {S : Nat → Prop} (h : A w S) (n : Nat) : A (w.drewN n) S := hA.keep h fun _ _ => rfl

set_option maxHeartbeats 2000000 in
theorem bit_out (p : Nat) (A : Option Addr) (c : Nat) (B : List Int) (at_ : Nat) (sh : Bool) (F : Asn) (hF : Lcl F) (hB : B.length ≤ 1000000000) (ho : sh = true ∨ 8 * B.length ≤ at_) :
    Tri Try.prog 52 #[.pointer (some ⟨p, 0, none⟩)] (RD p A c B at_ sh F) (fun e => Fact (e = .returned (.int .i64 0)) (RD p A c B at_ true F)) := by
  intro w S h
  obtain ⟨c0, c1, c2, f1, f2⟩ := rd_cells h
  have H := Lib.hid h
  clear h
  cases sh with
  | true =>
    clear ho
    go_enter Try.func52, Try.ntmps52
    go_wp2_with fail
    go_quiet (fail)
    go_wp2
    go_ret
    have h2 := rd_set2 (v := .bool true) hF (drewN_of ((Lcl.blk _ _ _).sep hF) H.out nq)
    exact ⟨S, ⟨rfl, h2.1⟩, (Step.refl S w).drewN nq |>.trans h2.2⟩
  | false =>
    have hge : 8 * B.length ≤ at_ := by simpa using ho
    have hg : decide ((8 : Int) * (B.length : Int) ≤ (at_ : Int)) = true := by simp; omega
    clear ho
    go_enter Try.func52, Try.ntmps52
    go_wp2_with fail
    go_quiet (fail)
    go_wp2
    go_ret
    have h2 := rd_set2 (v := .bool true) hF (drewN_of ((Lcl.blk _ _ _).sep hF) H.out nq)
    exact ⟨S, ⟨rfl, h2.1⟩, (Step.refl S w).drewN nq |>.trans h2.2⟩

set_option maxHeartbeats 2000000 in
theorem bit_in (p : Nat) (A : Option Addr) (c : Nat) (B : List Int) (at_ : Nat) (F : Asn) (hF : Lcl F) (hr : ∀ w S, F w S → Reads w .u8 A B) (hb : ∀ x ∈ B, 0 ≤ x ∧ x ≤ 255) (hB : B.length ≤ 1000000000) (hlt : at_ < 8 * B.length) :
    Tri Try.prog 52 #[.pointer (some ⟨p, 0, none⟩)] (RD p A c B at_ false F) (fun e => Fact (e = .returned (.int .i64 (if bitAt B at_ then 1 else 0))) (RD p A c B (at_ + 1) false F)) := by
  intro w S h
  obtain ⟨c0, c1, c2, f1, f2⟩ := rd_cells h
  have hR : Reads w .u8 A B := by obtain ⟨T, hT, _⟩ := h.comm.left; exact hr _ _ hT
  have hix : at_ / 8 < B.length := by omega
  obtain ⟨b, o, rfl, hblt, cx⟩ := hR.at hix
  have hz : 0 ≤ B.getD (at_ / 8) 0 ∧ B.getD (at_ / 8) 0 ≤ 255 := by
    rw [List.getD_eq_getElem?_getD, List.getElem?_eq_getElem hix]; exact hb _ (List.getElem_mem hix)
  have hbc := bit_code _ hz.1 hz.2 (7 - at_ % 8)
  have HBA : RowKit.Hid (bitAt B at_ = (B.getD (at_ / 8) 0).toNat.testBit (7 - at_ % 8)) := rfl
  generalize (B.getD (at_ / 8) 0).toNat.testBit (7 - at_ % 8) = bt at HBA hbc
  generalize B.getD (at_ / 8) 0 = z at cx hz hbc
  rw [HBA.out]
  have H := Lib.hid h
  have hg : decide ((8 : Int) * (B.length : Int) ≤ (at_ : Int)) = false := by simp; omega
  have h7 : (7 : Int) - (at_ : Int) % 8 = ((7 - at_ % 8 : Nat) : Int) := by omega
  obtain ⟨j, hj⟩ : ∃ j : Nat, j = 7 - at_ % 8 := ⟨_, rfl⟩
  rw [← hj] at h7 hbc
  have hq : (at_ : Int) / 8 < (B.length : Int) := by omega
  clear h hR hb HBA hj
  have hat : (at_ : Int) + 1 = ((at_ + 1 : Nat) : Int) := by omega
  have HAT := Lib.hid hat
  clear hat
  cases bt
  all_goals
    go_enter Try.func52, Try.ntmps52
    go_wp2_with fail
    go_quiet (fail)
    go_wp2
    go_quiet (fail)
    go_wp2
    go_ret
    have h2 := fun n => rd_set1 (v := .int .i64 ((at_ + 1 : Nat) : Int)) hF (drewN_of ((Lcl.blk _ _ _).sep hF) H.out n)
    rw [HAT.out]
    exact ⟨S, ⟨by simp, (h2 _).1⟩, ((Step.refl S w).drewN _).trans (h2 _).2⟩

set_option maxHeartbeats 1000000 in
theorem short_is (p : Nat) (A : Option Addr) (c : Nat) (B : List Int) (at_ : Nat) (sh : Bool) (F : Asn) (w : World) (S : Nat → Prop) (h : RD p A c B at_ sh F w S) :
    Calls Try.prog 27 #[.pointer (some ⟨p, 0, none⟩)] w fun e w' => e = .returned (.bool sh) ∧ w' = w := by
  obtain ⟨c0, c1, c2, f1, f2⟩ := rd_cells h
  clear h
  go_enter Try.func27, Try.ntmps27
  go_wp2
  go_ret
  exact ⟨rfl, rfl⟩

set_option maxHeartbeats 1000000 in
theorem stop_tri (p : Nat) (A : Option Addr) (c : Nat) (B : List Int) (at_ : Nat) (sh : Bool) (F : Asn) (hF : Lcl F) :
    Tri Try.prog 53 #[.pointer (some ⟨p, 0, none⟩)] (RD p A c B at_ sh F) (fun e => Fact (e = .returned (.tuple #[])) (RD p A c B at_ true F)) := by
  intro w S h
  obtain ⟨c0, c1, c2, f1, f2⟩ := rd_cells h
  have H := Lib.hid h
  clear h
  go_enter Try.func53, Try.ntmps53
  go_wp2
  go_end0
  have h2 := rd_set2 (v := .bool true) hF H.out
  exact ⟨S, ⟨rfl, h2.1⟩, h2.2⟩

/-- n ones, and a nought behind them. -/
def Ones (B : List Int) (at_ n : Nat) : Prop := ∀ i, i < n → bitAt B (at_ + i) = true
set_option maxHeartbeats 2000000 in
theorem unary_ok (p : Nat) (A : Option Addr) (c : Nat) (B : List Int) (at_ n : Nat) (most : Int) (F : Asn) (hF : Lcl F) (hr : ∀ w S, F w S → Reads w .u8 A B) (hb : ∀ x ∈ B, 0 ≤ x ∧ x ≤ 255) (hB : B.length ≤ 1000000000)
    (hn : at_ + n < 8 * B.length) (h1 : Ones B at_ n) (h0 : bitAt B (at_ + n) = false) (hm : (n : Int) ≤ most) :
    Tri Try.prog 26 #[.pointer (some ⟨p, 0, none⟩), .int .i64 most] (RD p A c B at_ false F) (fun e => Fact (e = .returned (.int .i64 n)) (RD p A c B (at_ + n + 1) false F)) := by
  intro w S h
  have H := Lib.hid h
  have H1 := Lib.hid h1
  have H0 := Lib.hid h0
  clear h h1 h0
  go_enter Try.func26, Try.ntmps26
  go_wp2_with fail
  go_loopw [5] (fun v wr => ∃ (j : Nat) (S' : Nat → Prop), j ≤ n ∧ v = .int .i64 j ∧ RD p A c B (at_ + j) false F wr S' ∧ Step S S' w wr) (fun v _ => n - (intOf v).toNat)
  case atStart => exact ⟨0, S, by omega, rfl, H.out, Step.refl _ _⟩
  case round =>
    obtain ⟨j, S', hj, rfl, hw, hst⟩ := hrel
    have HW := Lib.hid hw
    have ST := Lib.hid hst
    clear hw hst
    by_cases hlt : j < n
    · have hbit := H1.out j hlt
      have hp := bit_in p A c B (at_ + j) F hF hr hb hB (by omega)
      rw [hbit] at hp
      have HP := Lib.hid hp
      clear hp hbit
      go_wp2_with fail
      refine (HP.out _ _ HW.out).mono ?_
      rintro e w2 ⟨S2, ⟨rfl, h2⟩, st2⟩
      have H2 := Lib.hid h2
      have ST2 := Lib.hid (ST.out.trans st2)
      clear h2 st2
      have hg : decide (most < (j : Int) + 1) = false := by simp; omega
      go_wp2_with fail
      go_roundw
      case rel => exact ⟨j + 1, S2, by omega, rfl, H2.out, ST2.out⟩
      case measure => first | (simp [intOf]; done) | (simp [intOf]; omega)
    · obtain rfl : j = n := by omega
      have hp := bit_in p A c B (at_ + j) F hF hr hb hB (by omega)
      rw [H0.out] at hp
      have HP := Lib.hid hp
      clear hp
      go_wp2_with fail
      refine (HP.out _ _ HW.out).mono ?_
      rintro e w2 ⟨S2, ⟨rfl, h2⟩, st2⟩
      have H2 := Lib.hid h2
      have ST2 := Lib.hid (ST.out.trans st2)
      clear h2 st2
      go_wp2_with fail
      refine (short_is p A c B _ false F w2 S2 H2.out).mono ?_
      rintro e w3 ⟨rfl, rfl⟩
      go_wp2_with fail
      go_ret
      exact ⟨S2, ⟨rfl, H2.out⟩, ST2.out⟩

set_option maxHeartbeats 2000000 in
theorem unary_bad (p : Nat) (A : Option Addr) (c : Nat) (B : List Int) (at_ n : Nat) (F : Asn) (hF : Lcl F) (hr : ∀ w S, F w S → Reads w .u8 A B) (hb : ∀ x ∈ B, 0 ≤ x ∧ x ≤ 255) (hB : B.length ≤ 1000000000)
    (hn : at_ + n < 8 * B.length) (h1 : Ones B at_ (n + 1)) :
    Tri Try.prog 26 #[.pointer (some ⟨p, 0, none⟩), .int .i64 n] (RD p A c B at_ false F) (fun e => Fact (e = .returned (.int .i64 0)) (RD p A c B (at_ + n + 1) true F)) := by
  intro w S h
  have H := Lib.hid h
  have H1 := Lib.hid h1
  clear h h1
  go_enter Try.func26, Try.ntmps26
  go_wp2_with fail
  go_loopw [5] (fun v wr => ∃ (j : Nat) (S' : Nat → Prop), j ≤ n + 1 ∧ v = .int .i64 j ∧ RD p A c B (at_ + j) (decide (j = n + 1)) F wr S' ∧ Step S S' w wr) (fun v _ => n + 1 - (intOf v).toNat)
  case atStart => exact ⟨0, S, by omega, rfl, by rw [decide_eq_false (by omega)]; exact H.out, Step.refl _ _⟩
  case round =>
    obtain ⟨j, S', hj, rfl, hw, hst⟩ := hrel
    have ST := Lib.hid hst
    clear hst
    by_cases hlt : j < n + 1
    · rw [decide_eq_false (by omega)] at hw
      have HW := Lib.hid hw
      clear hw
      have hbit := H1.out j hlt
      have hp := bit_in p A c B (at_ + j) F hF hr hb hB (by omega)
      rw [hbit] at hp
      have HP := Lib.hid hp
      clear hp hbit
      by_cases hjn : j < n
      · go_wp2_with fail
        refine (HP.out _ _ HW.out).mono ?_
        rintro e w2 ⟨S2, ⟨rfl, h2⟩, st2⟩
        have H2 := Lib.hid h2
        have ST2 := Lib.hid (ST.out.trans st2)
        clear h2 st2
        have hg : decide ((n : Int) < (j : Int) + 1) = false := by simp; omega
        go_wp2_with fail
        go_roundw
        case rel => exact ⟨j + 1, S2, by omega, rfl, by rw [decide_eq_false (by omega)]; exact H2.out, ST2.out⟩
        case measure => first | (simp [intOf]; done) | (simp [intOf]; omega)
      · obtain rfl : j = n := by omega
        go_wp2_with fail
        refine (HP.out _ _ HW.out).mono ?_
        rintro e w2 ⟨S2, ⟨rfl, h2⟩, st2⟩
        have H2 := Lib.hid h2
        have ST2 := Lib.hid (ST.out.trans st2)
        clear h2 st2
        have hg : decide ((j : Int) < (j : Int) + 1) = true := by simp; omega
        go_wp2_with fail
        refine (stop_tri p A c B _ false F hF _ _ H2.out).mono ?_
        rintro e w3 ⟨S3, ⟨rfl, h3⟩, st3⟩
        have H3 := Lib.hid h3
        have ST3 := Lib.hid (ST2.out.trans st3)
        clear h3 st3
        go_wp2_with fail
        go_roundw
        case rel => exact ⟨j + 1, S3, by omega, rfl, by rw [decide_eq_true rfl]; exact H3.out, ST3.out⟩
        case measure => first | (simp [intOf]; done) | (simp [intOf]; omega)
    · obtain rfl : j = n + 1 := by omega
      rw [decide_eq_true rfl] at hw
      have HW := Lib.hid hw
      clear hw
      go_wp2_with fail
      refine (bit_out p A c B _ true F hF hB (.inl rfl) _ _ HW.out).mono ?_
      rintro e w2 ⟨S2, ⟨rfl, h2⟩, st2⟩
      have H2 := Lib.hid h2
      have ST2 := Lib.hid (ST.out.trans st2)
      clear h2 st2
      go_wp2_with fail
      refine (short_is p A c B _ true F w2 S2 H2.out).mono ?_
      rintro e w3 ⟨rfl, rfl⟩
      go_wp2_with fail
      go_ret
      exact ⟨S2, ⟨rfl, H2.out⟩, ST2.out⟩
end Go.Proofs.Ytpgnlpcnancplaa.Bits
