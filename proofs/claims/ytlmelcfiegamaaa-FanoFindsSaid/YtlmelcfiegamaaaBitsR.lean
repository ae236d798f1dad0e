/- The reader of bits: what each call answers and leaves. -/
import Derived.Test.YtlmelcfiegamaaaBitsW
import Derived.Deep.QuietTactic
import Derived.BigQuiet
import Derived.Laws.Shifts
import Derived.Laws.ShiftsVar
import Derived.Laws.ShiftsVarLaws
namespace Go.Proofs.Ytlmelcfiegamaaa.Bits
open Go.RowKit Go.Proofs.Ytlmelcfiegamaaa.Own Go.Proofs.Ytlmelcfiegamaaa.Rely
attribute [local go_sem] max_ints min_ints

/-- The bit at a place of a row of bytes. -/
def bitAt (B : List Int) (i : Nat) : Bool := (B.getD (i / 8) 0).toNat.testBit (7 - i % 8)
/-- A reader at block p, over a slice of the bytes B, behind it a piece F that tells them. -/
def RD (p : Nat) (A : Option Addr) (c : Nat) (B : List Int) (at_ : Nat) (sh : Bool) (F : Asn) : Asn := Sep (Blk p #[.slice A B.length c, .int .i64 at_, .bool sh] 113) F

theorem rd_set2 {p : Nat} {v0 v1 v2 v : Value} {t : TypeId} {F : Asn} (hF : Lcl F) {w : World} {S : Nat → Prop} (h : Sep (Blk p #[v0, v1, v2] t) F w S) :
    Sep (Blk p #[v0, v1, v] t) F (w.setCell ⟨p, 2, none⟩ v) S ∧ Step S S w (w.setCell ⟨p, 2, none⟩ v) := by
  obtain ⟨S1, S2, h1, h2, d, q⟩ := h
  have hs := Blk.set h1 2 v
  have hS : S = fun k => S1 k ∨ S2 k := funext fun k => propext (q k)
  have := Sep.step (A' := Blk p #[v0, v1, v] t) hF h2 d hs.1 hs.2
  rw [hS]
  exact this
theorem rd_set1 {p : Nat} {v0 v1 v2 v : Value} {t : TypeId} {F : Asn} (hF : Lcl F) {w : World} {S : Nat → Prop} (h : Sep (Blk p #[v0, v1, v2] t) F w S) :
    Sep (Blk p #[v0, v, v2] t) F (w.setCell ⟨p, 1, none⟩ v) S ∧ Step S S w (w.setCell ⟨p, 1, none⟩ v) := by
  obtain ⟨S1, S2, h1, h2, d, q⟩ := h
  have hs := Blk.set h1 1 v
  have hS : S = fun k => S1 k ∨ S2 k := funext fun k => propext (q k)
  have := Sep.step (A' := Blk p #[v0, v, v2] t) hF h2 d hs.1 hs.2
  rw [hS]
  exact this
theorem rd_cells {p : Nat} {v0 v1 v2 : Value} {t : TypeId} {F : Asn} {w : World} {S : Nat → Prop} (h : Sep (Blk p #[v0, v1, v2] t) F w S) :
    w.cell? ⟨p, 0, none⟩ = some v0 ∧ w.cell? ⟨p, 1, none⟩ = some v1 ∧ w.cell? ⟨p, 2, none⟩ = some v2 ∧ w.frozen? ⟨p, 1, none⟩ = false ∧ w.frozen? ⟨p, 2, none⟩ = false := by
  obtain ⟨T, hT, _⟩ := h.left
  exact ⟨hT.cell 0, hT.cell 1, hT.cell 2, hT.free 1, hT.free 2⟩

theorem bit_code (z : Int) (h0 : 0 ≤ z) (h1 : z ≤ 255) (j : Nat) : Go.bits .and .u8 (z / 2 ^ j) 1 = if z.toNat.testBit j then 1 else 0 := by
  obtain ⟨n, rfl⟩ := Int.eq_ofNat_of_zero_le h0
  rw [Bit.and8]
  have e : (n : Int) / 2 ^ j = ((n / 2 ^ j : Nat) : Int) := by rw [Int.natCast_ediv, Int.natCast_pow]; rfl
  have hx : n / 2 ^ j ≤ 255 := Nat.le_trans (Nat.div_le_self _ _) (by omega)
  rw [e, BitVec.ofInt_natCast, show BitVec.ofInt 8 1 = 1#8 from rfl, BitVec.toNat_and, BitVec.toNat_ofNat]
  show ((n / 2 ^ j % 2 ^ 8 &&& 1 : Nat) : Int) = _
  rw [Nat.and_one_is_mod, Int.toNat_natCast, Nat.testBit_eq_decide_div_mod_eq]
  by_cases hb : n / 2 ^ j % 2 = 1
  · rw [decide_eq_true hb, if_pos rfl]; omega
  · rw [decide_eq_false hb, if_neg (by decide)]; omega

theorem drewN_of {A : Asn} (hA : Lcl A) {w : World} {S : Nat → Prop} (h : A w S) (n : Nat) : A (w.drewN n) S := hA.keep h fun _ _ => rfl

set_option maxHeartbeats 2000000 in
theorem bit_out (p : Nat) (A : Option Addr) (c : Nat) (B : List Int) (at_ : Nat) (sh : Bool) (F : Asn) (hF : Lcl F) (hB : B.length ≤ 1000000000) (ho : sh = true ∨ 8 * B.length ≤ at_) :
    Tri Try.prog 70 #[.pointer (some ⟨p, 0, none⟩)] (RD p A c B at_ sh F) (fun e => Fact (e = .returned (.int .i64 0)) (RD p A c B at_ true F)) := by
  intro w S h
  obtain ⟨c0, c1, c2, f1, f2⟩ := rd_cells h
  have H := Lib.hid h
  clear h
  cases sh with
  | true =>
    clear ho
    go_enter Try.func70, Try.ntmps70
    go_wp2_with fail
    go_quiet (fail)
    go_wp2
    go_ret
    have h2 := rd_set2 (v := .bool true) hF (drewN_of ((Lcl.blk _ _ _).sep hF) H.out nq)
    exact ⟨S, ⟨rfl, h2.1⟩, (Step.refl S w).drewN nq |>.trans h2.2⟩
  | false =>
    have hge : 8 * B.length ≤ at_ := by simpa using ho
    have hg : decide ((8 : Int) * (B.length : Int) ≤ (at_ : Int)) = true := by simp; omega
    clear ho
    go_enter Try.func70, Try.ntmps70
    go_wp2_with fail
    go_quiet (fail)
    go_wp2
    go_ret
    have h2 := rd_set2 (v := .bool true) hF (drewN_of ((Lcl.blk _ _ _).sep hF) H.out nq)
    exact ⟨S, ⟨rfl, h2.1⟩, (Step.refl S w).drewN nq |>.trans h2.2⟩

set_option maxHeartbeats 2000000 in
theorem bit_in (p : Nat) (A : Option Addr) (c : Nat) (B : List Int) (at_ : Nat) (F : Asn) (hF : Lcl F) (hr : ∀ w S, F w S → Reads w .u8 A B) (hb : ∀ x ∈ B, 0 ≤ x ∧ x ≤ 255) (hB : B.length ≤ 1000000000) (hlt : at_ < 8 * B.length) :
    Tri Try.prog 70 #[.pointer (some ⟨p, 0, none⟩)] (RD p A c B at_ false F) (fun e => Fact (e = .returned (.int .i64 (if bitAt B at_ then 1 else 0))) (RD p A c B (at_ + 1) false F)) := by
  intro w S h
  obtain ⟨c0, c1, c2, f1, f2⟩ := rd_cells h
  have hR : Reads w .u8 A B := by obtain ⟨T, hT, _⟩ := h.comm.left; exact hr _ _ hT
  have hix : at_ / 8 < B.length := by omega
  obtain ⟨b, o, rfl, hblt, cx⟩ := hR.at hix
  have hz : 0 ≤ B.getD (at_ / 8) 0 ∧ B.getD (at_ / 8) 0 ≤ 255 := by
    rw [List.getD_eq_getElem?_getD, List.getElem?_eq_getElem hix]; exact hb _ (List.getElem_mem hix)
  have hbc := bit_code _ hz.1 hz.2 (7 - at_ % 8)
  have HBA : RowKit.Hid (bitAt B at_ = (B.getD (at_ / 8) 0).toNat.testBit (7 - at_ % 8)) := rfl
  generalize (B.getD (at_ / 8) 0).toNat.testBit (7 - at_ % 8) = bt at HBA hbc
  generalize B.getD (at_ / 8) 0 = z at cx hz hbc
  rw [HBA.out]
  have H := Lib.hid h
  have hg : decide ((8 : Int) * (B.length : Int) ≤ (at_ : Int)) = false := by simp; omega
  have h7 : (7 : Int) - (at_ : Int) % 8 = ((7 - at_ % 8 : Nat) : Int) := by omega
  obtain ⟨j, hj⟩ : ∃ j : Nat, j = 7 - at_ % 8 := ⟨_, rfl⟩
  rw [← hj] at h7 hbc
  have hq : (at_ : Int) / 8 < (B.length : Int) := by omega
  clear h hR hb HBA hj
  have hat : (at_ : Int) + 1 = ((at_ + 1 : Nat) : Int) := by omega
  have HAT := Lib.hid hat
  clear hat
  cases bt
  all_goals
    go_enter Try.func70, Try.ntmps70
    go_wp2_with fail
    go_quiet (fail)
    go_wp2
    go_quiet (fail)
    go_wp2
    go_ret
    have h2 := fun n => rd_set1 (v := .int .i64 ((at_ + 1 : Nat) : Int)) hF (drewN_of ((Lcl.blk _ _ _).sep hF) H.out n)
    rw [HAT.out]
    exact ⟨S, ⟨by simp, (h2 _).1⟩, ((Step.refl S w).drewN _).trans (h2 _).2⟩

set_option maxHeartbeats 1000000 in
theorem short_is (p : Nat) (A : Option Addr) (c : Nat) (B : List Int) (at_ : Nat) (sh : Bool) (F : Asn) (w : World) (S : Nat → Prop) (h : RD p A c B at_ sh F w S) :
    Calls Try.prog 57 #[.pointer (some ⟨p, 0, none⟩)] w fun e w' => e = .returned (.bool sh) ∧ w' = w := by
  obtain ⟨c0, c1, c2, f1, f2⟩ := rd_cells h
  clear h
  go_enter Try.func57, Try.ntmps57
  go_wp2
  go_ret
  exact ⟨rfl, rfl⟩

set_option maxHeartbeats 1000000 in
theorem stop_tri (p : Nat) (A : Option Addr) (c : Nat) (B : List Int) (at_ : Nat) (sh : Bool) (F : Asn) (hF : Lcl F) :
    Tri Try.prog 71 #[.pointer (some ⟨p, 0, none⟩)] (RD p A c B at_ sh F) (fun e => Fact (e = .returned (.tuple #[])) (RD p A c B at_ true F)) := by
  intro w S h
  obtain ⟨c0, c1, c2, f1, f2⟩ := rd_cells h
  have H := Lib.hid h
  clear h
  go_enter Try.func71, Try.ntmps71
  go_wp2
  go_end0
  have h2 := rd_set2 (v := .bool true) hF H.out
  exact ⟨S, ⟨rfl, h2.1⟩, h2.2⟩

/-- n ones, and a nought behind them. -/
def Ones (B : List Int) (at_ n : Nat) : Prop := ∀ i, i < n → bitAt B (at_ + i) = true
set_option maxHeartbeats 2000000 in
theorem unary_ok (p : Nat) (A : Option Addr) (c : Nat) (B : List Int) (at_ n : Nat) (most : Int) (F : Asn) (hF : Lcl F) (hr : ∀ w S, F w S → Reads w .u8 A B) (hb : ∀ x ∈ B, 0 ≤ x ∧ x ≤ 255) (hB : B.length ≤ 1000000000)
    (hn : at_ + n < 8 * B.length) (h1 : Ones B at_ n) (h0 : bitAt B (at_ + n) = false) (hm : (n : Int) ≤ most) :
    Tri Try.prog 55 #[.pointer (some ⟨p, 0, none⟩), .int .i64 most] (RD p A c B at_ false F) (fun e => Fact (e = .returned (.int .i64 n)) (RD p A c B (at_ + n + 1) false F)) := by
  intro w S h
  have H := Lib.hid h
  have H1 := Lib.hid h1
  have H0 := Lib.hid h0
  clear h h1 h0
  go_enter Try.func55, Try.ntmps55
  go_wp2_with fail
  go_loopw [5] (fun v wr => ∃ (j : Nat) (S' : Nat → Prop), j ≤ n ∧ v = .int .i64 j ∧ RD p A c B (at_ + j) false F wr S' ∧ Step S S' w wr) (fun v _ => n - (intOf v).toNat)
  case atStart => exact ⟨0, S, by omega, rfl, H.out, Step.refl _ _⟩
  case round =>
    obtain ⟨j, S', hj, rfl, hw, hst⟩ := hrel
    have HW := Lib.hid hw
    have ST := Lib.hid hst
    clear hw hst
    by_cases hlt : j < n
    · have hbit := H1.out j hlt
      have hp := bit_in p A c B (at_ + j) F hF hr hb hB (by omega)
      rw [hbit] at hp
      have HP := Lib.hid hp
      clear hp hbit
      go_wp2_with fail
      refine (HP.out _ _ HW.out).mono ?_
      rintro e w2 ⟨S2, ⟨rfl, h2⟩, st2⟩
      have H2 := Lib.hid h2
      have ST2 := Lib.hid (ST.out.trans st2)
      clear h2 st2
      have hg : decide (most < (j : Int) + 1) = false := by simp; omega
      go_wp2_with fail
      go_roundw
      case rel => exact ⟨j + 1, S2, by omega, rfl, H2.out, ST2.out⟩
      case measure => first | (simp [intOf]; done) | (simp [intOf]; omega)
    · obtain rfl : j = n := by omega
      have hp := bit_in p A c B (at_ + j) F hF hr hb hB (by omega)
      rw [H0.out] at hp
      have HP := Lib.hid hp
      clear hp
      go_wp2_with fail
      refine (HP.out _ _ HW.out).mono ?_
      rintro e w2 ⟨S2, ⟨rfl, h2⟩, st2⟩
      have H2 := Lib.hid h2
      have ST2 := Lib.hid (ST.out.trans st2)
      clear h2 st2
      go_wp2_with fail
      refine (short_is p A c B _ false F w2 S2 H2.out).mono ?_
      rintro e w3 ⟨rfl, rfl⟩
      go_wp2_with fail
      go_ret
      exact ⟨S2, ⟨rfl, H2.out⟩, ST2.out⟩

set_option maxHeartbeats 2000000 in
theorem unary_bad (p : Nat) (A : Option Addr) (c : Nat) (B : List Int) (at_ n : Nat) (F : Asn) (hF : Lcl F) (hr : ∀ w S, F w S → Reads w .u8 A B) (hb : ∀ x ∈ B, 0 ≤ x ∧ x ≤ 255) (hB : B.length ≤ 1000000000)
    (hn : at_ + n < 8 * B.length) (h1 : Ones B at_ (n + 1)) :
    Tri Try.prog 55 #[.pointer (some ⟨p, 0, none⟩), .int .i64 n] (RD p A c B at_ false F) (fun e => Fact (e = .returned (.int .i64 0)) (RD p A c B (at_ + n + 1) true F)) := by
  intro w S h
  have H := Lib.hid h
  have H1 := Lib.hid h1
  clear h h1
  go_enter Try.func55, Try.ntmps55
  go_wp2_with fail
  go_loopw [5] (fun v wr => ∃ (j : Nat) (S' : Nat → Prop), j ≤ n + 1 ∧ v = .int .i64 j ∧ RD p A c B (at_ + j) (decide (j = n + 1)) F wr S' ∧ Step S S' w wr) (fun v _ => n + 1 - (intOf v).toNat)
  case atStart => exact ⟨0, S, by omega, rfl, by rw [decide_eq_false (by omega)]; exact H.out, Step.refl _ _⟩
  case round =>
    obtain ⟨j, S', hj, rfl, hw, hst⟩ := hrel
    have ST := Lib.hid hst
    clear hst
    by_cases hlt : j < n + 1
    · rw [decide_eq_false (by omega)] at hw
      have HW := Lib.hid hw
      clear hw
      have hbit := H1.out j hlt
      have hp := bit_in p A c B (at_ + j) F hF hr hb hB (by omega)
      rw [hbit] at hp
      have HP := Lib.hid hp
      clear hp hbit
      by_cases hjn : j < n
      · go_wp2_with fail
        refine (HP.out _ _ HW.out).mono ?_
        rintro e w2 ⟨S2, ⟨rfl, h2⟩, st2⟩
        have H2 := Lib.hid h2
        have ST2 := Lib.hid (ST.out.trans st2)
        clear h2 st2
        have hg : decide ((n : Int) < (j : Int) + 1) = false := by simp; omega
        go_wp2_with fail
        go_roundw
        case rel => exact ⟨j + 1, S2, by omega, rfl, by rw [decide_eq_false (by omega)]; exact H2.out, ST2.out⟩
        case measure => first | (simp [intOf]; done) | (simp [intOf]; omega)
      · obtain rfl : j = n := by omega
        go_wp2_with fail
        refine (HP.out _ _ HW.out).mono ?_
        rintro e w2 ⟨S2, ⟨rfl, h2⟩, st2⟩
        have H2 := Lib.hid h2
        have ST2 := Lib.hid (ST.out.trans st2)
        clear h2 st2
        have hg : decide ((j : Int) < (j : Int) + 1) = true := by simp; omega
        go_wp2_with fail
        refine (stop_tri p A c B _ false F hF _ _ H2.out).mono ?_
        rintro e w3 ⟨S3, ⟨rfl, h3⟩, st3⟩
        have H3 := Lib.hid h3
        have ST3 := Lib.hid (ST2.out.trans st3)
        clear h3 st3
        go_wp2_with fail
        go_roundw
        case rel => exact ⟨j + 1, S3, by omega, rfl, by rw [decide_eq_true rfl]; exact H3.out, ST3.out⟩
        case measure => first | (simp [intOf]; done) | (simp [intOf]; omega)
    · obtain rfl : j = n + 1 := by omega
      rw [decide_eq_true rfl] at hw
      have HW := Lib.hid hw
      clear hw
      go_wp2_with fail
      refine (bit_out p A c B _ true F hF hB (.inl rfl) _ _ HW.out).mono ?_
      rintro e w2 ⟨S2, ⟨rfl, h2⟩, st2⟩
      have H2 := Lib.hid h2
      have ST2 := Lib.hid (ST.out.trans st2)
      clear h2 st2
      go_wp2_with fail
      refine (short_is p A c B _ true F w2 S2 H2.out).mono ?_
      rintro e w3 ⟨rfl, rfl⟩
      go_wp2_with fail
      go_ret
      exact ⟨S2, ⟨rfl, H2.out⟩, ST2.out⟩
end Go.Proofs.Ytlmelcfiegamaaa.Bits
/- The bytes of a row of bits, read bit by bit, are the row, and noughts behind it. -/
namespace Go.Proofs.Ytlmelcfiegamaaa.Bits
open Go.RowKit Go.Proofs.Ytlmelcfiegamaaa.Own

theorem getD_zero (B : List Int) (k : Nat) : (B ++ [0]).getD k 0 = B.getD k 0 := by
  rw [List.getD_eq_getElem?_getD, List.getD_eq_getElem?_getD, List.getElem?_append]
  by_cases h : k < B.length
  · rw [if_pos h]
  · rw [if_neg h, List.getElem?_eq_none (l := B) (by omega)]
    cases hk : k - B.length with
    | zero => rfl
    | succ j => rfl
theorem bitAt_grow (B : List Int) (m i : Nat) : bitAt (grow B m) i = bitAt B i := by
  unfold grow bitAt
  split
  · rw [getD_zero]
  · rfl
theorem mask_pow (j : Nat) (hj : j ≤ 7) : (128 : Int) / 2 ^ j = ((2 ^ (7 - j) : Nat) : Int) := by
  have : j = 0 ∨ j = 1 ∨ j = 2 ∨ j = 3 ∨ j = 4 ∨ j = 5 ∨ j = 6 ∨ j = 7 := by omega
  rcases this with rfl | rfl | rfl | rfl | rfl | rfl | rfl | rfl <;> rfl
theorem or_code (z : Int) (h0 : 0 ≤ z) (h1 : z ≤ 255) (j : Nat) (hj : j ≤ 7) : Go.bits .or .u8 z (128 / 2 ^ j) = ((z.toNat ||| 2 ^ (7 - j) : Nat) : Int) ∧ (z.toNat ||| 2 ^ (7 - j)) ≤ 255 := by
  obtain ⟨n, rfl⟩ := Int.eq_ofNat_of_zero_le h0
  have hp : 2 ^ (7 - j) < 256 := by
    have := Nat.pow_le_pow_right (n := 2) (by omega) (show 7 - j ≤ 7 by omega)
    omega
  have hor : (n ||| 2 ^ (7 - j)) < 2 ^ 8 := Nat.or_lt_two_pow (by omega) (by omega)
  refine ⟨?_, by rw [Int.toNat_natCast]; omega⟩
  rw [mask_pow j hj, Bit.or8, BitVec.ofInt_natCast, BitVec.ofInt_natCast, BitVec.toNat_or, BitVec.toNat_ofNat, BitVec.toNat_ofNat, Int.toNat_natCast, Nat.mod_eq_of_lt (show n < 2 ^ 8 by omega), Nat.mod_eq_of_lt (show 2 ^ (7 - j) < 2 ^ 8 by omega)]
def Bytes (B : List Int) : Prop := ∀ x ∈ B, 0 ≤ x ∧ x ≤ 255
theorem Bytes.getD {B : List Int} (h : Bytes B) (k : Nat) : 0 ≤ B.getD k 0 ∧ B.getD k 0 ≤ 255 := by
  by_cases hk : k < B.length
  · rw [List.getD_eq_getElem?_getD, List.getElem?_eq_getElem hk]; exact h _ (List.getElem_mem hk)
  · rw [List.getD_eq_getElem?_getD, List.getElem?_eq_none (by omega)]; decide
theorem bytes_grow {B : List Int} (h : Bytes B) (m : Nat) : Bytes (grow B m) := by
  unfold grow
  split
  · intro x hx
    rcases List.mem_append.1 hx with hx | hx
    · exact h x hx
    · rw [List.mem_singleton] at hx; subst hx; decide
  · exact h
theorem bytes_mark {B : List Int} (h : Bytes B) (m : Nat) : Bytes (mark B m) := by
  unfold mark
  have hz := h.getD (m / 8)
  obtain ⟨h1, h2⟩ := or_code _ hz.1 hz.2 (m % 8) (by omega)
  intro x hx
  rcases List.mem_or_eq_of_mem_set hx with hx | hx
  · exact h x hx
  · rw [hx, h1]; omega
theorem bitAt_mark {B : List Int} (h : Bytes B) (m i : Nat) (hm : m / 8 < B.length) : bitAt (mark B m) i = (decide (i = m) || bitAt B i) := by
  have hz := h.getD (m / 8)
  obtain ⟨h1, _⟩ := or_code _ hz.1 hz.2 (m % 8) (by omega)
  unfold mark bitAt
  rw [h1]
  by_cases hi : i / 8 = m / 8
  · rw [hi, List.getD_eq_getElem?_getD (l := B.set _ _), List.getElem?_set_self hm]
    simp only [Option.getD_some, Int.toNat_natCast, Nat.testBit_or, Nat.testBit_two_pow]
    rw [Bool.or_comm]
    congr 1
    apply decide_eq_decide.2
    omega
  · have hne : ¬ i = m := by intro e; subst e; exact hi rfl
    rw [List.getD_eq_getElem?_getD, List.getElem?_set_ne (by omega), ← List.getD_eq_getElem?_getD, decide_eq_false hne, Bool.false_or]
theorem getD_snoc (L : List Bool) (b : Bool) (i : Nat) : (L ++ [b]).getD i false = ((decide (i = L.length) && b) || L.getD i false) := by
  rw [List.getD_eq_getElem?_getD, List.getElem?_append, List.getD_eq_getElem?_getD]
  by_cases h : i < L.length
  · rw [if_pos h, decide_eq_false (by omega)]; simp
  · rw [if_neg h, List.getElem?_eq_none (l := L) (by omega)]
    by_cases e : i = L.length
    · subst e; simp
    · have : i - L.length ≠ 0 := by omega
      obtain ⟨j, hj⟩ := Nat.exists_eq_succ_of_ne_zero this
      rw [hj]; simp [e]
theorem pack_all (L : List Bool) : Bytes (pack L) ∧ ∀ i, bitAt (pack L) i = L.getD i false := by
  have key : ∀ (n : Nat) (L : List Bool), L.length = n → Bytes (pack L) ∧ ∀ i, bitAt (pack L) i = L.getD i false := by
    intro n
    induction n with
    | zero =>
      intro L hL
      obtain rfl : L = [] := List.eq_nil_of_length_eq_zero hL
      exact ⟨fun x hx => by simp [pack, packs] at hx, fun i => by simp [pack, packs, bitAt]⟩
    | succ n ih =>
      intro L hL
      have hne : L ≠ [] := by intro e; subst e; cases hL
      obtain ⟨M, b, rfl⟩ : ∃ M b, L = M ++ [b] := ⟨L.dropLast, L.getLast hne, (List.dropLast_concat_getLast hne).symm⟩
      have hM : M.length = n := by simpa using hL
      obtain ⟨h1, h2⟩ := ih M hM
      rw [pack_snoc]
      have hg := bytes_grow h1 M.length
      have hlt := grow_length (pack_length M)
      unfold put1
      cases b with
      | false =>
        simp only [Bool.false_eq_true, if_false]
        refine ⟨hg, fun i => ?_⟩
        rw [bitAt_grow, h2, getD_snoc]; simp
      | true =>
        simp only [if_true]
        refine ⟨bytes_mark hg _, fun i => ?_⟩
        rw [bitAt_mark hg _ _ hlt, bitAt_grow, h2, getD_snoc]; simp
  exact key L.length L rfl
end Go.Proofs.Ytlmelcfiegamaaa.Bits
/- The writer's bytes, read: where they lie, a new reader over them, its end. -/
namespace Go.Proofs.Ytlmelcfiegamaaa.Bits
open Go.RowKit Go.Proofs.Ytlmelcfiegamaaa.Own Go.Proofs.Ytlmelcfiegamaaa.Rely
attribute [local go_sem] max_ints min_ints

/-- Bytes that are read, with the block that they lie in. -/
def RdF (A : Option Addr) (B : List Int) : Asn := fun w S => Reads w .u8 A B ∧ ∀ k, S k ↔ (0 < B.length ∧ ∃ a, A = some a ∧ a.block = k)
theorem loc_rdf (A : Option Addr) (B : List Int) : Lcl (RdF A B) where
  keep := by
    rintro w w' S ⟨h, hS⟩ hk
    refine ⟨fun i hi => ?_, hS⟩
    obtain ⟨b, o, rfl, h1, h2⟩ := h i hi
    have hb : w'.heap[b]? = w.heap[b]? := hk b ((hS b).2 ⟨by omega, _, rfl, rfl⟩)
    have hlt : b < w'.heap.size := by
      have e : w.heap[b]? = some w.heap[b] := Array.getElem?_eq_getElem h1
      rw [← hb] at e
      exact (Array.getElem?_eq_some_iff.1 e).1
    refine ⟨b, o, rfl, hlt, ?_⟩
    rw [← h2]
    simp only [World.cell?, hb]
  lt := by
    rintro w S k ⟨h, hS⟩ hk
    obtain ⟨h0, a, rfl, rfl⟩ := (hS k).1 hk
    obtain ⟨b, o, e, h1, _⟩ := h 0 h0
    injection e with e
    subst e
    exact h1

set_option maxHeartbeats 1000000 in
theorem bytes_f (p : Nat) (L : List Bool) (hL : L.length ≤ 1000000000) (w : World) (S : Nat → Prop) (h : BW p L w S) : Calls Try.prog 49 #[.pointer (some ⟨p, 0, none⟩)] w
    fun e w' => ∃ A c, e = .returned (.slice A (pack L).length c) ∧ (pack L).length ≤ c ∧ Below w.heap.size w w' ∧ ∃ S', Sep (BW p L) (RdF A (pack L)) w' S' ∧ Step S S' w w' := by
  have hb := Lib.hid h
  obtain ⟨A, c, c0, _, hr⟩ := bw_c h
  have hl : (pack L).length ≤ 1000000000 := by rw [pack_length]; omega
  have hE := sepEmpty Lcl.emp (w := w) (S := fun _ => False) (fun _ x => x) 5 .u8
  have c4 : (w.alloc (.cells #[] 5)).cell? ⟨p, 0, none⟩ = some (.slice A (pack L).length c) := (((Below.refl w.heap.size w).alloc (Nat.le_refl _) (.cells #[] 5)).cell (p := ⟨p, 0, none⟩) (World.block_lt_of_cell? w _ c0)).trans c0
  have HR := Lib.hid (hr.later (w' := w.alloc (.cells #[] 5)) ((Below.refl _ _).alloc (Nat.le_refl _) _))
  have H := Lib.hid hE
  clear h hE hr
  generalize hP : pack L = P at *
  have HP := Lib.hid hP
  clear hP
  go_enter Try.func49, Try.ntmps49
  go_wp2_with (at_builtin; refine append_row _ rfl _ _ 27 rfl 5 .u8 1 Try.underlying27 info_u8 (by decide) _ [] P A P.length c rfl rfl rfl Lcl.emp H.out.1 HR.out (by simp; omega) ?_; intro A' c' w' S' h' st'; have H' := Lib.hid h'; have ST' := Lib.hid st'; clear h' st')
  go_ret
  have h5 := H'.out
  simp only [List.length_nil, Nat.zero_add, List.nil_append] at h5
  have hst := (H.out.2).trans ST'.out
  have hbl := below_of hst
  have h6 := Sep.left_of_emp h5
  obtain ⟨A2, c2, e2, h7, h8, h9⟩ := h6.reads
  injection e2 with e3 _ e4
  subst e3 e4
  have hbw := (loc_bw p L).keep hb.out fun k hk => hbl.block k ((loc_bw p L).lt hb.out hk)
  refine ⟨_, _, rfl, h7, hbl, fun k => S k ∨ (0 < P.length ∧ ∃ a, A' = some a ∧ a.block = k), ⟨S, _, hbw, ⟨h8, fun k => Iff.rfl⟩, fun k hk hk' => ?_, fun k => Iff.rfl⟩, ⟨.of_below hbl, fun k hk => ?_⟩⟩
  · obtain ⟨_, a, rfl, rfl⟩ := hk'
    have h10 := (loc_bw p L).lt hb.out hk
    rcases hst.fresh a.block (h9 a rfl) with x | x
    · exact x
    · omega
  · rcases hk with hk | ⟨_, a, rfl, rfl⟩
    · exact .inl hk
    · rcases hst.fresh a.block (h9 a rfl) with x | x
      · exact x.elim
      · exact .inr x

set_option maxHeartbeats 1000000 in
theorem read_is (A : Option Addr) (n c : Nat) (w : World) : Calls Try.prog 54 #[.slice A n c] w
    fun e w' => e = .returned (.pointer (some ⟨w.heap.size, 0, none⟩)) ∧ w' = w.alloc (.cells #[.slice A n c, .int .i64 0, .bool false] 113) := by
  go_enter Try.func54, Try.ntmps54
  go_wp2
  go_ret
  exact ⟨rfl, rfl⟩

set_option maxHeartbeats 2000000 in
theorem end_ok (p : Nat) (A : Option Addr) (c : Nat) (B : List Int) (at_ : Nat) (F : Asn) (hr : ∀ w S, F w S → Reads w .u8 A B) (hb : ∀ x ∈ B, 0 ≤ x ∧ x ≤ 255) (hB : B.length ≤ 1000000000)
    (h0 : at_ ≤ 8 * B.length) (h8 : 8 * B.length < at_ + 8) (hz : ∀ i, at_ ≤ i → bitAt B i = false) (w : World) (S : Nat → Prop) (h : RD p A c B at_ false F w S) :
    Calls Try.prog 67 #[.pointer (some ⟨p, 0, none⟩)] w fun e w' => e = .returned (.int .i64 0) ∧ ∃ n, w' = w.drewN n := by
  obtain ⟨c0, c1, c2, f1, f2⟩ := rd_cells h
  have hR : Reads w .u8 A B := by obtain ⟨T, hT, _⟩ := h.comm.left; exact hr _ _ hT
  have HR := Lib.hid hR
  have HB := Lib.hid hb
  have HZ := Lib.hid hz
  have hg : decide ((8 : Int) ≤ 8 * (B.length : Int) - (at_ : Int)) = false := by simp; omega
  clear h hR hr hb hz
  go_enter Try.func67, Try.ntmps67
  go_wp2_with fail
  go_quiet (fail)
  go_wp2_with fail
  go_loopw [3] (fun v wr => ∃ (i m : Nat), v = .int .i64 i ∧ at_ ≤ i ∧ i ≤ 8 * B.length ∧ wr = w.drewN m) (fun v _ => 8 * B.length - (intOf v).toNat)
  case atStart => exact ⟨at_, _, rfl, Nat.le_refl _, h0, rfl⟩
  case round =>
    obtain ⟨i, m, rfl, hi0, hi1, rfl⟩ := hrel
    by_cases hlt : i < 8 * B.length
    · have hix : i / 8 < B.length := by omega
      obtain ⟨b, o, rfl, hblt, cx⟩ := HR.out.at hix
      have hz0 : 0 ≤ B.getD (i / 8) 0 ∧ B.getD (i / 8) 0 ≤ 255 := by
        rw [List.getD_eq_getElem?_getD, List.getElem?_eq_getElem hix]; exact HB.out _ (List.getElem_mem hix)
      have hbc := bit_code _ hz0.1 hz0.2 (7 - i % 8)
      rw [show (B.getD (i / 8) 0).toNat.testBit (7 - i % 8) = false from HZ.out i hi0, if_neg (by decide)] at hbc
      generalize B.getD (i / 8) 0 = z at cx hz0 hbc
      have h7 : (7 : Int) - (i : Int) % 8 = ((7 - i % 8 : Nat) : Int) := by omega
      obtain ⟨j, hj⟩ : ∃ j : Nat, j = 7 - i % 8 := ⟨_, rfl⟩
      rw [← hj] at h7 hbc
      have hq : (i : Int) / 8 < (B.length : Int) := by omega
      have hl : decide ((i : Int) < 8 * (B.length : Int)) = true := by simp; omega
      clear hj
      go_wp2_with fail
      go_roundw
      case rel => exact ⟨i + 1, m, by first | rfl | simp, by omega, by omega, rfl⟩
      case measure => first | (simp [intOf]; done) | (simp [intOf]; omega)
    · have hl : decide ((i : Int) < 8 * (B.length : Int)) = false := by simp; omega
      go_wp2_with fail
      go_ret
      exact ⟨rfl, _, rfl⟩
end Go.Proofs.Ytlmelcfiegamaaa.Bits
