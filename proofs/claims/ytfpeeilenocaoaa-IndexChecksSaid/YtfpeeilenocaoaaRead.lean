/- The wire's reader: what each call answers and leaves. -/
import Derived.Test.YtfpeeilenocaoaaWire
import Derived.Deep.QuietTactic
import Derived.BigQuiet
import Derived.Deep.DeepCutAuto
import Derived.Deep.CutBlock
import Derived.Laws.Shifts
import Derived.Laws.ShiftsVar
import Derived.Laws.ShiftsVarLaws
namespace Go.Proofs.Ytfpeeilenocaoaa.Wire
open Go.RowKit Go.Proofs.Ytfpeeilenocaoaa.Own
attribute [local go_sem] max_ints min_ints

theorem ret_i64 {a b : Int} (h : a = b) : Ending.returned (.int .i64 a) = .returned (.int .i64 b) := by rw [h]
theorem ret_u8 {a b : Int} (h : a = b) : Ending.returned (.int .u8 a) = .returned (.int .u8 b) := by rw [h]
/-! ### the reader, as a function -/
/-- How many bytes were taken, the error. -/
structure RS where
  at_ : Nat
  err : Int
def rfail (s : RS) (e : Int) : RS := if s.err = 0 then ⟨s.at_, e⟩ else s
def rbyte (xs : List Int) (s : RS) : Int × RS :=
  if s.err = 0 ∧ s.at_ < xs.length then (xs.getD s.at_ 0, ⟨s.at_ + 1, s.err⟩) else (0, rfail s 3)
def rleft (xs : List Int) (s : RS) : Nat := if s.err = 0 then xs.length - s.at_ else 0
def rend (xs : List Int) (s : RS) : Int := if s.err = 0 ∧ s.at_ < xs.length then 15 else s.err

/-- A reader at block p, over a slice of the bytes xs. -/
def Rd (p : Nat) (A : Option Addr) (c : Nat) (xs : List Int) (s : RS) : Asn :=
  Fact (s.at_ ≤ xs.length ∧ 0 ≤ s.err ∧ s.err ≤ 100 ∧ xs.length ≤ c ∧ c ≤ 9223372036854775807) (Blk p #[.slice A xs.length c, .int .i64 s.at_, .int .i64 s.err] 89)
theorem loc_rd (p : Nat) (A : Option Addr) (c : Nat) (xs : List Int) (s : RS) : Lcl (Rd p A c xs s) := (Lcl.blk _ _ _).fact
section
variable {p : Nat} {A : Option Addr} {c : Nat} {xs : List Int} {s : RS} {w : World} {S : Nat → Prop}
theorem Rd.c0 (h : Rd p A c xs s w S) : w.cell? ⟨p, 0, none⟩ = some (.slice A xs.length c) := h.2.cell 0
theorem Rd.c1 (h : Rd p A c xs s w S) : w.cell? ⟨p, 1, none⟩ = some (.int .i64 s.at_) := h.2.cell 1
theorem Rd.c2 (h : Rd p A c xs s w S) : w.cell? ⟨p, 2, none⟩ = some (.int .i64 s.err) := h.2.cell 2
theorem Rd.f1 (h : Rd p A c xs s w S) : w.frozen? ⟨p, 1, none⟩ = false := h.2.free 1
theorem Rd.f2 (h : Rd p A c xs s w S) : w.frozen? ⟨p, 2, none⟩ = false := h.2.free 2
theorem Rd.setErr (h : Rd p A c xs s w S) (e : Int) (h0 : 0 ≤ e) (h1 : e ≤ 100) : Rd p A c xs ⟨s.at_, e⟩ (w.setCell ⟨p, 2, none⟩ (.int .i64 e)) S ∧ Step S S w (w.setCell ⟨p, 2, none⟩ (.int .i64 e)) := by
  have := Blk.set h.2 2 (.int .i64 e)
  exact ⟨⟨⟨h.1.1, h0, h1, h.1.2.2.2⟩, this.1⟩, this.2⟩
theorem Rd.setAt (h : Rd p A c xs s w S) (a : Nat) (h1 : a ≤ xs.length) : Rd p A c xs ⟨a, s.err⟩ (w.setCell ⟨p, 1, none⟩ (.int .i64 a)) S ∧ Step S S w (w.setCell ⟨p, 1, none⟩ (.int .i64 a)) := by
  have := Blk.set h.2 1 (.int .i64 a)
  exact ⟨⟨⟨h1, h.1.2⟩, this.1⟩, this.2⟩
end

set_option maxHeartbeats 1000000 in
theorem fail_tri (p : Nat) (A : Option Addr) (c : Nat) (xs : List Int) (s : RS) (e : Int) (h0 : 0 ≤ e) (h1 : e ≤ 100) :
    Tri Try.prog 49 #[.pointer (some ⟨p, 0, none⟩), .int .i64 e] (Rd p A c xs s) (fun r => Fact (r = .returned (.tuple #[])) (Rd p A c xs (rfail s e))) := by
  intro w S h
  have c2 := h.c2
  have f2 := h.f2
  have H := Lib.hid h
  clear h
  by_cases hz : s.err = 0
  · rw [hz] at c2
    rw [show rfail s e = ⟨s.at_, e⟩ from if_pos hz]
    clear hz
    go_enter Try.func49, Try.ntmps49
    go_wp2
    go_end0
    exact ⟨_, ⟨rfl, (H.out.setErr e h0 h1).1⟩, (H.out.setErr e h0 h1).2⟩
  · rw [show rfail s e = s from if_neg hz]
    have hb : (s.err == 0) = false := beq_eq_false_iff_ne.2 hz
    clear hz
    go_enter Try.func49, Try.ntmps49
    go_wp2
    go_end0
    exact ⟨_, ⟨rfl, H.out⟩, Step.refl _ _⟩

set_option maxHeartbeats 1000000 in
theorem err_is (p : Nat) (A : Option Addr) (c : Nat) (xs : List Int) (s : RS) (w : World) (S : Nat → Prop) (h : Rd p A c xs s w S) :
    Calls Try.prog 39 #[.pointer (some ⟨p, 0, none⟩)] w fun r w' => r = .returned (.int .i64 s.err) ∧ w = w' := by
  have c2 := h.c2
  clear h
  go_enter Try.func39, Try.ntmps39
  go_wp2
  go_ret
  exact ⟨rfl, rfl⟩
set_option maxHeartbeats 1000000 in
theorem at_is (p : Nat) (A : Option Addr) (c : Nat) (xs : List Int) (s : RS) (w : World) (S : Nat → Prop) (h : Rd p A c xs s w S) :
    Calls Try.prog 38 #[.pointer (some ⟨p, 0, none⟩)] w fun r w' => r = .returned (.int .i64 s.at_) ∧ w = w' := by
  have c1 := h.c1
  clear h
  go_enter Try.func38, Try.ntmps38
  go_wp2
  go_ret
  exact ⟨rfl, rfl⟩
set_option maxHeartbeats 1000000 in
theorem left_is (p : Nat) (A : Option Addr) (c : Nat) (xs : List Int) (s : RS) (w : World) (S : Nat → Prop) (h : Rd p A c xs s w S) :
    Calls Try.prog 48 #[.pointer (some ⟨p, 0, none⟩)] w fun r w' => r = .returned (.int .i64 (rleft xs s)) ∧ ∃ n, w' = w.drewN n := by
  have c0 := h.c0
  have c1 := h.c1
  have c2 := h.c2
  have hb := h.1
  clear h
  by_cases hz : s.err = 0
  · rw [hz] at c2
    rw [show rleft xs s = xs.length - s.at_ from if_pos hz]
    have h1 := hb.1
    have h2 : xs.length ≤ 9223372036854775807 := by omega
    clear hz hb
    go_enter Try.func48, Try.ntmps48
    go_wp2
    go_quiet (fail)
    go_wp2
    go_ret
    exact ⟨ret_i64 (by omega), _, rfl⟩
  · rw [show rleft xs s = 0 from if_neg hz]
    have hb : (s.err != 0) = true := bne_iff_ne.2 hz
    clear hz
    go_enter Try.func48, Try.ntmps48
    go_wp2
    go_ret
    exact ⟨rfl, 0, rfl⟩

theorem Rd.ne {p : Nat} {A : Option Addr} {c : Nat} {xs : List Int} {s : RS} {w : World} {S : Nat → Prop} (h : Rd p A c xs s w S) {b o : Nat} {x : Int} (hc : w.cell? ⟨b, o, none⟩ = some (.int .u8 x)) : ¬ b = p := by
  intro e
  subst e
  rw [h.2.cell o] at hc
  match o, hc with
  | 0, hc => simp at hc
  | 1, hc => simp at hc
  | 2, hc => simp at hc
  | n + 3, hc => simp at hc

set_option maxHeartbeats 1000000 in
theorem byte_calls (p : Nat) (A : Option Addr) (c : Nat) (xs : List Int) (s : RS) (w : World) (S : Nat → Prop) (h : Rd p A c xs s w S) (hr : Reads w .u8 A xs) :
    Calls Try.prog 36 #[.pointer (some ⟨p, 0, none⟩)] w fun r w' => ∃ S', Fact (r = .returned (.int .u8 (rbyte xs s).1)) (Rd p A c xs (rbyte xs s).2) w' S' ∧ Step S S' w w' := by
  have hb := h.1
  have c0 := h.c0
  have c1 := h.c1
  have f1 := h.f1
  have H := Lib.hid h
  by_cases hok : s.err = 0 ∧ s.at_ < xs.length
  · obtain ⟨b, o, rfl, hbs, hc⟩ := hr.at hok.2
    have hne := h.ne hc
    have hne2 : ¬ p = b := fun e => hne e.symm
    rw [show rbyte xs s = (xs.getD s.at_ 0, ⟨s.at_ + 1, s.err⟩) from if_pos hok]
    have hl : rleft xs s = xs.length - s.at_ := if_pos hok.1
    have hl2 : (((rleft xs s : Nat) : Int) == 0) = false := by rw [hl]; exact beq_eq_false_iff_ne.2 (by omega)
    have h1 := hok.2
    have h2 : xs.length ≤ 9223372036854775807 := by omega
    obtain ⟨z, hz⟩ : ∃ z, xs.getD s.at_ 0 = z := ⟨_, rfl⟩
    rw [hz] at hc ⊢
    clear h hl hok hr hz hb
    go_enter Try.func36, Try.ntmps36
    go_wp2_with (go_at_call 48; (with_reducible refine (left_is p _ c xs s _ _ H.out).mono ?_); rintro e w' ⟨rfl, nd, rfl⟩)
    go_quiet (fail)
    go_wp2
    go_ret
    have hs := Rd.setAt (w := w.drewN nd) H.out (s.at_ + 1) (by omega)
    exact ⟨S, ⟨rfl, hs.1⟩, (((Step.refl S w).drewN nd).trans hs.2).drewN _⟩
  · rw [show rbyte xs s = (0, rfail s 3) from if_neg hok]
    have hl2 : (((rleft xs s : Nat) : Int) == 0) = true := by unfold rleft; split <;> simp <;> omega
    clear h hok hr hb
    go_enter Try.func36, Try.ntmps36
    go_wp2_with (go_at_call 48; (with_reducible refine (left_is p _ c xs s _ _ H.out).mono ?_); rintro e w' ⟨rfl, nd, rfl⟩)
    refine (fail_tri p A c xs s 3 (by omega) (by omega) (w.drewN nd) S H.out).mono ?_
    rintro e w2 ⟨S2, ⟨rfl, h2⟩, st2⟩
    have H2 := Lib.hid h2
    have ST2 := Lib.hid (((Step.refl S w).drewN nd).trans st2)
    clear h2 st2
    go_wp2
    go_ret
    exact ⟨S2, ⟨rfl, H2.out⟩, ST2.out⟩

/-! ### bytes at once -/
/-- Which bytes, and the reader behind it; none: a nil slice. -/
def rbytes (xs : List Int) (s : RS) (n : Int) : List Int × RS :=
  if n < 0 ∨ (rleft xs s : Int) < n then ([], rfail s 3) else ((xs.drop s.at_).take n.toNat, ⟨s.at_ + n.toNat, s.err⟩)

set_option maxHeartbeats 1000000 in
theorem bytes_no (p : Nat) (A : Option Addr) (c : Nat) (xs : List Int) (s : RS) (n : Int) (w : World) (S : Nat → Prop) (h : Rd p A c xs s w S) (hn : n < 0 ∨ (rleft xs s : Int) < n) (n1 : n ≤ 9223372036854775807) :
    Calls Try.prog 35 #[.pointer (some ⟨p, 0, none⟩), .int .i64 n] w fun r w' => ∃ S', Fact (r = .returned (.slice none 0 0)) (Rd p A c xs (rfail s 3)) w' S' ∧ Step S S' w w' := by
  have H := Lib.hid h
  clear h
  by_cases h0 : n < 0
  · clear hn
    go_enter Try.func35, Try.ntmps35
    go_wp2_with fail
    refine (fail_tri p A c xs s 3 (by omega) (by omega) w S H.out).mono ?_
    rintro e w2 ⟨S2, ⟨rfl, h2⟩, st2⟩
    have H2 := Lib.hid h2
    have ST2 := Lib.hid st2
    clear h2 st2
    go_wp2
    go_ret
    exact ⟨S2, ⟨rfl, H2.out⟩, ST2.out⟩
  · have h1 : decide ((rleft xs s : Int) < n) = true := decide_eq_true (by omega)
    clear hn
    go_enter Try.func35, Try.ntmps35
    go_wp2_with (go_at_call 48; (with_reducible refine (left_is p _ c xs s _ _ H.out).mono ?_); rintro e w' ⟨rfl, nd, rfl⟩)
    refine (fail_tri p A c xs s 3 (by omega) (by omega) (w.drewN nd) S H.out).mono ?_
    rintro e w2 ⟨S2, ⟨rfl, h2⟩, st2⟩
    have H2 := Lib.hid h2
    have ST2 := Lib.hid (((Step.refl S w).drewN nd).trans st2)
    clear h2 st2
    go_wp2
    go_ret
    exact ⟨S2, ⟨rfl, H2.out⟩, ST2.out⟩

set_option maxHeartbeats 1000000 in
theorem bytes_zero (p : Nat) (A : Option Addr) (c : Nat) (xs : List Int) (s : RS) (w : World) (S : Nat → Prop) (h : Rd p A c xs s w S) :
    Calls Try.prog 35 #[.pointer (some ⟨p, 0, none⟩), .int .i64 0] w fun r w' => ∃ S', Fact (r = .returned (.slice none 0 0)) (Rd p A c xs s) w' S' ∧ Step S S' w w' := by
  have H := Lib.hid h
  clear h
  go_enter Try.func35, Try.ntmps35
  go_wp2_with (go_at_call 48; (with_reducible refine (left_is p _ c xs s _ _ H.out).mono ?_); rintro e w' ⟨rfl, nd, rfl⟩)
  go_ret
  exact ⟨S, ⟨rfl, H.out⟩, (Step.refl S w).drewN nd⟩

set_option maxHeartbeats 1000000 in
theorem bytes_some (p : Nat) (b o : Nat) (c : Nat) (xs : List Int) (s : RS) (n : Nat) (w : World) (S : Nat → Prop) (h : Rd p (some ⟨b, o, none⟩) c xs s w S) (h0 : s.err = 0) (hn : s.at_ + n ≤ xs.length) (hp : 0 < n) :
    Calls Try.prog 35 #[.pointer (some ⟨p, 0, none⟩), .int .i64 n] w fun r w' => ∃ S', Fact (r = .returned (.slice (some ⟨b, o + s.at_, none⟩) n n)) (Rd p (some ⟨b, o, none⟩) c xs ⟨s.at_ + n, s.err⟩) w' S' ∧ Step S S' w w' := by
  have c0 := h.c0
  have c1 := h.c1
  have f1 := h.f1
  have H := Lib.hid h
  have hl : rleft xs s = xs.length - s.at_ := if_pos h0
  have hl2 : decide (rleft xs s < n) = false := by rw [hl]; exact decide_eq_false (by omega)
  have hl3 : decide ((n : Int) < 0) = false := decide_eq_false (by omega)
  have hl4 : ((n : Int) == 0) = false := beq_eq_false_iff_ne.2 (by omega)
  have h2 : xs.length ≤ c := h.1.2.2.2.1
  have h3 : c ≤ 9223372036854775807 := h.1.2.2.2.2
  have h4 : 1 ≤ n := hp
  clear h hl hp
  go_enter Try.func35, Try.ntmps35
  go_wp2_with (go_at_call 48; (with_reducible refine (left_is p _ c xs s _ _ H.out).mono ?_); rintro e w' ⟨rfl, nd, rfl⟩)
  go_quiet (fail)
  go_wp2
  go_ret
  have hs := Rd.setAt (w := w.drewN nd) H.out (s.at_ + n) hn
  refine ⟨S, ⟨?_, hs.1⟩, (((Step.refl S w).drewN nd).trans hs.2).drewN _⟩
  have e : s.at_ + n - s.at_ = n := by omega
  show Ending.returned (.slice (some ⟨b, o + s.at_, none⟩) (s.at_ + n - s.at_) (s.at_ + n - s.at_)) = _
  rw [e]

/-- Some bytes: a slice of them, that is read wherever the reader's own bytes are. -/
theorem bytes_calls (p : Nat) (A : Option Addr) (c : Nat) (xs : List Int) (s : RS) (n : Int) (w : World) (S : Nat → Prop) (h : Rd p A c xs s w S) (hr : Reads w .u8 A xs) (n1 : n ≤ 9223372036854775807) :
    Calls Try.prog 35 #[.pointer (some ⟨p, 0, none⟩), .int .i64 n] w fun r w' => ∃ S' A', Fact (r = .returned (.slice A' (rbytes xs s n).1.length (rbytes xs s n).1.length)) (Rd p A c xs (rbytes xs s n).2) w' S' ∧ Step S S' w w' ∧
      (∀ w2, Reads w2 .u8 A xs → Reads w2 .u8 A' (rbytes xs s n).1) ∧ (∀ a, A' = some a → ∃ b, A = some b ∧ a.block = b.block) := by
  by_cases hn : n < 0 ∨ (rleft xs s : Int) < n
  · rw [show rbytes xs s n = ([], rfail s 3) from if_pos hn]
    refine (bytes_no p A c xs s n w S h hn n1).mono ?_
    rintro r w' ⟨S', h', st⟩
    exact ⟨S', none, h', st, fun w2 _ i hi => by simp at hi, fun a q => by cases q⟩
  · rw [show rbytes xs s n = ((xs.drop s.at_).take n.toNat, ⟨s.at_ + n.toNat, s.err⟩) from if_neg hn]
    obtain ⟨m, rfl⟩ := Int.eq_ofNat_of_zero_le (show 0 ≤ n by omega)
    simp only [Int.toNat_natCast]
    by_cases hm : m = 0
    · subst hm
      refine (bytes_zero p A c xs s w S h).mono ?_
      rintro r w' ⟨S', h', st⟩
      exact ⟨S', none, by simpa using h', st, fun w2 _ i hi => by simp at hi, fun a q => by cases q⟩
    · have he : s.err = 0 := by
        apply Classical.byContradiction
        intro q
        have : rleft xs s = 0 := if_neg q
        omega
      have hl : rleft xs s = xs.length - s.at_ := if_pos he
      have h1 := h.1.1
      obtain ⟨b, o, rfl, _, _⟩ := hr 0 (by omega)
      refine (bytes_some p b o c xs s m w S h he (by omega) (by omega)).mono ?_
      rintro r w' ⟨S', h', st⟩
      have hlen : ((xs.drop s.at_).take m).length = m := by simp; omega
      refine ⟨S', some ⟨b, o + s.at_, none⟩, by rw [hlen]; exact h', st, fun w2 hr2 i hi => ?_, fun a q => by injection q with q; subst q; exact ⟨_, rfl, rfl⟩⟩
      obtain ⟨b', o', q, hb, hc⟩ := hr2 (s.at_ + i) (by omega)
      injection q with q
      injection q with q1 q2 q3
      subst q1 q2
      refine ⟨b, o + s.at_, rfl, hb, ?_⟩
      rw [Nat.add_assoc, hc]
      simp [List.getD_eq_getElem?_getD, List.getElem?_take, hlen ▸ hi, List.getElem?_drop]

/-! ### a number -/
def ubad (k : Nat) (c : Int) : Bool := (decide (k = 9) && decide (1 < c)) || (decide (0 < k) && decide (c = 0))
def uone (xs : List Int) (k : Nat) (s : RS) : Int × RS := ((rbyte xs s).1, if ubad k (rbyte xs s).1 then rfail (rbyte xs s).2 4 else (rbyte xs s).2)
/-- f + 1 bytes more may come. -/
def uloop (xs : List Int) : Nat → Nat → RS → Option Nat × RS
  | 0, n, s => if (uone xs 9 s).2.err ≠ 0 then (none, (uone xs 9 s).2) else (some (n + ((uone xs 9 s).1 % 128).toNat * 128 ^ 9), (uone xs 9 s).2)
  | f + 1, n, s => if (uone xs (8 - f) s).2.err ≠ 0 then (none, (uone xs (8 - f) s).2) else
      if (uone xs (8 - f) s).1 < 128 then (some (n + ((uone xs (8 - f) s).1 % 128).toNat * 128 ^ (8 - f)), (uone xs (8 - f) s).2)
      else uloop xs f (n + ((uone xs (8 - f) s).1 % 128).toNat * 128 ^ (8 - f)) (uone xs (8 - f) s).2
def rnum (xs : List Int) (most : Nat) (s : RS) : Nat × RS :=
  match uloop xs 9 0 s with
  | (none, s') => (0, s')
  | (some n, s') => if most < n then (0, rfail s' 7) else (n, s')

theorem rbyte_range {xs : List Int} (hx : IsBytes xs) (s : RS) : 0 ≤ (rbyte xs s).1 ∧ (rbyte xs s).1 ≤ 255 := by
  unfold rbyte
  split
  · rename_i h
    exact hx _ (by simp [List.getD_eq_getElem?_getD, List.getElem?_eq_getElem h.2])
  · exact ⟨by omega, by omega⟩
theorem uloop_bad {xs : List Int} {k n : Nat} {s : RS} (hk : k ≤ 9) (h : (uone xs k s).2.err ≠ 0) : uloop xs (9 - k) n s = (none, (uone xs k s).2) := by
  rcases Nat.lt_or_ge k 9 with h9 | h9
  · obtain ⟨f, hf⟩ : ∃ f, 9 - k = f + 1 := ⟨8 - k, by omega⟩
    rw [hf, uloop, show 8 - f = k by omega, if_pos h]
  · obtain rfl : k = 9 := by omega
    rw [show 9 - 9 = 0 from rfl, uloop, if_pos h]
theorem uloop_last {xs : List Int} {k n : Nat} {s : RS} (hk : k ≤ 9) (h : (uone xs k s).2.err = 0) (hz : (uone xs k s).1 < 128) : uloop xs (9 - k) n s = (some (n + ((uone xs k s).1 % 128).toNat * 128 ^ k), (uone xs k s).2) := by
  rcases Nat.lt_or_ge k 9 with h9 | h9
  · obtain ⟨f, hf⟩ : ∃ f, 9 - k = f + 1 := ⟨8 - k, by omega⟩
    rw [hf, uloop, show 8 - f = k by omega, if_neg (by simp [h]), if_pos hz]
  · obtain rfl : k = 9 := by omega
    rw [show 9 - 9 = 0 from rfl, uloop, if_neg (by simp [h])]
theorem uloop_next {xs : List Int} {k n : Nat} {s : RS} (hk : k < 9) (h : (uone xs k s).2.err = 0) (hz : ¬ (uone xs k s).1 < 128) : uloop xs (9 - k) n s = uloop xs (9 - (k + 1)) (n + ((uone xs k s).1 % 128).toNat * 128 ^ k) (uone xs k s).2 := by
  obtain ⟨f, hf⟩ : ∃ f, 9 - k = f + 1 := ⟨8 - k, by omega⟩
  rw [hf, uloop, show 8 - f = k by omega, if_neg (by simp [h]), if_neg hz, show 9 - (k + 1) = f by omega]
theorem rfail_ne (s : RS) {e : Int} (he : e ≠ 0) : (rfail s e).err ≠ 0 := by unfold rfail; split <;> assumption

/-- At the head of a round. -/
def URel (p : Nat) (A : Option Addr) (c : Nat) (xs : List Int) (s : RS) (S : Nat → Prop) (w : World) (k n : Nat) (q : Int) (wr : World) : Prop :=
  ∃ s1 S1, q = 7 * k ∧ k ≤ 9 ∧ n < 128 ^ k ∧ uloop xs (9 - k) n s1 = uloop xs 9 0 s ∧ Rd p A c xs s1 wr S1 ∧ Step S S1 w wr

set_option maxHeartbeats 2000000 in
set_option maxRecDepth 20000 in
theorem uint_calls (p : Nat) (A : Option Addr) (c : Nat) (xs : List Int) (s : RS) (most : Nat) (w : World) (S : Nat → Prop) (hx : IsBytes xs) (h : Rd p A c xs s w S) (hr : ∀ w', Keep S w w' → Reads w' .u8 A xs) :
    Calls Try.prog 43 #[.pointer (some ⟨p, 0, none⟩), .int .u64 most] w fun r w' => ∃ S', Fact (r = .returned (.int .u64 (rnum xs most s).1)) (Rd p A c xs (rnum xs most s).2) w' S' ∧ Step S S' w w' := by
  have H := Lib.hid h
  have HR := Lib.hid hr
  have HX := Lib.hid hx
  clear h hr hx
  go_enter Try.func43, Try.ntmps43
  go_wp2_with fail
  go_loopw [5, 6] (fun v i wr => ∃ (k n : Nat) (q : Int), v = .int .u64 n ∧ i = .int .i64 q ∧ 0 ≤ q ∧ q ≤ 63 ∧ URel p A c xs s S w k n q wr) (fun _ i _ => 70 - (intOf i).toNat)
  case atStart => exact ⟨0, 0, 0, rfl, rfl, by omega, by omega, s, S, rfl, by omega, by omega, rfl, H.out, Step.refl _ _⟩
  case round =>
    obtain ⟨k, n, q, rfl, rfl, q0, q1, s1, S1, hq, hk, hn, hu, h1, st1⟩ := hrel
    have H1 := Lib.hid h1
    have ST1 := Lib.hid st1
    have HU := Lib.hid hu
    have HN := Lib.hid hn
    have HQ := Lib.hid hq
    clear h1 st1 hu hn hq
    go_wp2_with fail
    refine (byte_calls p A c xs s1 wr S1 H1.out (HR.out wr ST1.out.keep)).mono ?_
    rintro e w2 ⟨S2, ⟨rfl, h2⟩, st2⟩
    have H2 := Lib.hid h2
    have ST2 := Lib.hid (ST1.out.trans st2)
    clear h2 st2
    obtain ⟨z, hz⟩ : ∃ z, (rbyte xs s1).1 = z := ⟨_, rfl⟩
    have hzr := rbyte_range HX.out s1
    rw [hz] at hzr ⊢
    have HZ := Lib.hid hz
    obtain ⟨g0, g3⟩ := hzr
    clear hz
    go_upto_region 5 with fail
    go_cut [25] (fun v wc => v = .bool (ubad k z) ∧ wc = w2)
    case first =>
      have hc : ((q == 63) = true ∧ decide (1 < z) = true ∧ ubad k z = true) ∨ ((q == 63) = true ∧ decide (1 < z) = false ∧ decide (0 < q) = true ∧ (z == 0) = ubad k z) ∨ ((q == 63) = false ∧ decide (0 < q) = true ∧ (z == 0) = ubad k z) ∨ ((q == 63) = false ∧ decide (0 < q) = false ∧ false = ubad k z) := by
        have hq := HQ.out
        unfold ubad
        by_cases c1 : k = 9
        · subst c1
          by_cases c2 : 1 < z
          · exact .inl ⟨beq_iff_eq.2 (by omega), decide_eq_true c2, by simp [c2]⟩
          · exact .inr (.inl ⟨beq_iff_eq.2 (by omega), decide_eq_false c2, decide_eq_true (by omega), by simp [c2]; rfl⟩)
        · by_cases c2 : k = 0
          · subst c2
            exact .inr (.inr (.inr ⟨beq_eq_false_iff_ne.2 (by omega), decide_eq_false (by omega), by simp⟩))
          · exact .inr (.inr (.inl ⟨beq_eq_false_iff_ne.2 (by omega), decide_eq_true (by omega), by simp [c1, show 0 < k by omega]; rfl⟩))
      rcases hc with ⟨c1, c2, c3⟩ | ⟨c1, c2, c3, c4⟩ | ⟨c1, c3, c4⟩ | ⟨c1, c3, c4⟩
      · have C3 := Lib.hid c3; clear c3; go_wp2_with fail; go_meet; exact ⟨congrArg Value.bool C3.out.symm, rfl⟩
      · have C4 := Lib.hid c4; clear c4; go_wp2_with fail; go_meet; exact ⟨congrArg Value.bool C4.out, rfl⟩
      · have C4 := Lib.hid c4; clear c4; go_wp2_with fail; go_meet; exact ⟨congrArg Value.bool C4.out, rfl⟩
      · have C4 := Lib.hid c4; clear c4; go_wp2_with fail; go_meet; exact ⟨congrArg Value.bool C4.out, rfl⟩
    case rest =>
      obtain ⟨rfl, rfl⟩ := hcut
      cases hbad : ubad k z with
      | true =>
        have hone : uone xs k s1 = (z, rfail (rbyte xs s1).2 4) := by unfold uone; rw [HZ.out, hbad, if_pos rfl]
        have hne := rfail_ne (rbyte xs s1).2 (e := 4) (by omega)
        have hul : uloop xs 9 0 s = (none, rfail (rbyte xs s1).2 4) := by rw [← HU.out, uloop_bad hk (by rw [hone]; exact hne), hone]
        have hfin : rnum xs most s = (0, rfail (rbyte xs s1).2 4) := by unfold rnum; rw [hul]
        have HF := Lib.hid hfin
        have hne2 : ((rfail (rbyte xs s1).2 4).err != 0) = true := bne_iff_ne.2 hne
        clear hone hul hfin hbad hne
        go_wp2_with fail
        refine (fail_tri p A c xs _ 4 (by omega) (by omega) wc S2 H2.out).mono ?_
        rintro e w3 ⟨S3, ⟨rfl, h3⟩, st3⟩
        have H3 := Lib.hid h3
        have ST3 := Lib.hid (ST2.out.trans st3)
        clear h3 st3
        go_wp2_with fail
        refine (err_is p A c xs _ _ _ H3.out).mono ?_
        rintro e w4 ⟨rfl, rfl⟩
        go_wp2_with fail
        go_ret
        exact ⟨S3, ⟨by rw [HF.out]; rfl, by rw [HF.out]; exact H3.out⟩, ST3.out⟩
      | false =>
        have hone : uone xs k s1 = (z, (rbyte xs s1).2) := by unfold uone; rw [HZ.out, hbad, if_neg (by simp)]
        go_wp2_with fail
        refine (err_is p A c xs _ _ _ H2.out).mono ?_
        rintro e w4 ⟨rfl, rfl⟩
        by_cases he : (rbyte xs s1).2.err = 0
        · have he2 : ((rbyte xs s1).2.err != 0) = false := by simp [he]
          have h9 : k = 9 → z ≤ 1 := by
            intro e
            subst e
            unfold ubad at hbad
            apply Classical.byContradiction
            intro c
            simp [show 1 < z by omega] at hbad
          have hor := Bit.or_shift n k z q g0 g3 hk HN.out h9 HQ.out
          obtain ⟨n2, hn2⟩ : ∃ n2, n + (z % 128).toNat * 128 ^ k = n2 := ⟨_, rfl⟩
          rw [hn2] at hor
          have HO := Lib.hid hone
          have HE := Lib.hid he
          have HN2 := Lib.hid hn2
          have H9 := Lib.hid h9
          clear hone he hbad hn2 h9
          by_cases hlt : z < 128
          · have hul : uloop xs 9 0 s = (some n2, (rbyte xs s1).2) := by rw [← HU.out, uloop_last hk (by rw [HO.out]; exact HE.out) (by rw [HO.out]; exact hlt), HO.out, HN2.out]
            have HUL := Lib.hid hul
            clear hul
            by_cases hm : most < n2
            · have hfin : rnum xs most s = (0, rfail (rbyte xs s1).2 7) := by unfold rnum; rw [HUL.out]; simp only; rw [if_pos hm]
              have HF := Lib.hid hfin
              have hmb : decide (most < n2) = true := decide_eq_true hm
              clear hfin hm
              go_wp2_with fail
              refine (fail_tri p A c xs _ 7 (by omega) (by omega) wc S2 H2.out).mono ?_
              rintro e w3 ⟨S3, ⟨rfl, h3⟩, st3⟩
              have H3 := Lib.hid h3
              have ST3 := Lib.hid (ST2.out.trans st3)
              clear h3 st3
              go_wp2_with fail
              go_ret
              exact ⟨S3, ⟨by rw [HF.out]; rfl, by rw [HF.out]; exact H3.out⟩, ST3.out⟩
            · have hfin : rnum xs most s = (n2, (rbyte xs s1).2) := by unfold rnum; rw [HUL.out]; simp only; rw [if_neg hm]
              have HF := Lib.hid hfin
              have hmb : decide (most < n2) = false := decide_eq_false hm
              clear hfin hm
              go_wp2_with fail
              go_ret
              exact ⟨S2, ⟨by rw [HF.out]; rfl, by rw [HF.out]; exact H2.out⟩, ST2.out⟩
          · have hk9 : k < 9 := by
              rcases Nat.lt_or_ge k 9 with h | h
              · exact h
              · have := H9.out (by omega); omega
            have hq7 := HQ.out
            have hqb : q + 7 ≤ 63 := by omega
            clear hq7
            go_wp2_with fail
            go_roundw
            case rel =>
              refine ⟨k + 1, n2, q + 7, rfl, rfl, by omega, by omega, (rbyte xs s1).2, S2, by have := HQ.out; omega, by omega, ?_, ?_, H2.out, ST2.out⟩
              · have h1 := HN.out
                have h2 := HN2.out
                have h4 : (z % 128).toNat * 128 ^ k ≤ 127 * 128 ^ k := Nat.mul_le_mul_right _ (by omega)
                rw [← h2, Nat.pow_succ]
                omega
              · rw [← HU.out, uloop_next hk9 (by rw [HO.out]; exact HE.out) (by rw [HO.out]; show ¬ z < 128; omega), HO.out, HN2.out]
            case measure => simp [intOf]; omega
        · have he2 : ((rbyte xs s1).2.err != 0) = true := bne_iff_ne.2 he
          have hul : uloop xs 9 0 s = (none, (rbyte xs s1).2) := by rw [← HU.out, uloop_bad hk (by rw [hone]; exact he), hone]
          have hfin : rnum xs most s = (0, (rbyte xs s1).2) := by unfold rnum; rw [hul]
          have HF := Lib.hid hfin
          clear hone he hul hfin hbad
          go_wp2_with fail
          go_ret
          exact ⟨S2, ⟨by rw [HF.out]; rfl, by rw [HF.out]; exact H2.out⟩, ST2.out⟩

theorem uloop_lt (xs : List Int) (hx : IsBytes xs) : ∀ (f n : Nat) (s : RS) (m : Nat) (s' : RS), f ≤ 9 → n < 128 ^ (9 - f) → uloop xs f n s = (some m, s') → U64 m := by
  intro f
  induction f with
  | zero =>
    intro n s m s' _ hn h
    rw [uloop] at h
    split at h
    · cases h
    · rename_i he
      injection h with h1 h2
      injection h1 with h1
      have hr := rbyte_range hx s
      have hz : (uone xs 9 s).1 ≤ 1 := by
        apply Classical.byContradiction
        intro c
        have hc : 1 < (rbyte xs s).1 := by unfold uone at c; omega
        have : (uone xs 9 s).2.err ≠ 0 := by
          unfold uone
          rw [show ubad 9 (rbyte xs s).1 = true by unfold ubad; simp [hc], if_pos rfl]
          exact rfail_ne _ (by omega)
        exact he this
      have h3 : ((uone xs 9 s).1 % 128).toNat ≤ 1 := by have : 0 ≤ (uone xs 9 s).1 := hr.1; omega
      have h4 : ((uone xs 9 s).1 % 128).toNat * 128 ^ 9 ≤ 1 * 128 ^ 9 := Nat.mul_le_mul_right _ h3
      have h5 : (128 : Nat) ^ 9 = 9223372036854775808 := by decide
      unfold U64
      rw [show 9 - 0 = 9 from rfl, h5] at hn
      rw [h5] at h1 h4
      omega
  | succ f ih =>
    intro n s m s' hf hn h
    have hr := rbyte_range hx s
    have h3 : ((uone xs (8 - f) s).1 % 128).toNat ≤ 127 := by omega
    have h4 : ((uone xs (8 - f) s).1 % 128).toNat * 128 ^ (8 - f) ≤ 127 * 128 ^ (8 - f) := Nat.mul_le_mul_right _ h3
    rw [show 9 - (f + 1) = 8 - f by omega] at hn
    have h5 : n + ((uone xs (8 - f) s).1 % 128).toNat * 128 ^ (8 - f) < 128 ^ (9 - f) := by
      rw [show 9 - f = (8 - f) + 1 by omega, Nat.pow_succ]; omega
    rw [uloop] at h
    split at h
    · cases h
    · split at h
      · injection h with h1 h2
        injection h1 with h1
        have h6 : (128 : Nat) ^ (9 - f) ≤ 128 ^ 9 := Nat.pow_le_pow_right (by omega) (by omega)
        have h7 : (128 : Nat) ^ 9 = 9223372036854775808 := by decide
        unfold U64
        rw [h7] at h6
        omega
      · exact ih _ _ m s' (by omega) h5 h
theorem rnum_lt (xs : List Int) (hx : IsBytes xs) (most : Nat) (s : RS) : U64 (rnum xs most s).1 := by
  unfold rnum
  cases h : uloop xs 9 0 s with
  | mk o s' =>
    cases o with
    | none => show 0 < 18446744073709551616; omega
    | some m =>
      simp only
      split
      · show 0 < 18446744073709551616; omega
      · exact uloop_lt xs hx 9 0 s m s' (by omega) (by simp) h

set_option maxHeartbeats 1000000 in
theorem end_is (p : Nat) (A : Option Addr) (c : Nat) (xs : List Int) (s : RS) (w : World) (S : Nat → Prop) (h : Rd p A c xs s w S) :
    Calls Try.prog 44 #[.pointer (some ⟨p, 0, none⟩)] w fun r w' => r = .returned (.int .i64 (rend xs s)) ∧ ∃ n, w' = w.drewN n := by
  have c0 := h.c0
  have c1 := h.c1
  have c2 := h.c2
  have hb := h.1.2.2.2
  have H := Lib.hid h
  have hle : xs.length ≤ 9223372036854775807 := by omega
  clear h
  by_cases hz : s.err = 0
  · have hzb : (s.err == 0) = true := beq_iff_eq.2 hz
    rw [hz] at c2
    by_cases hl : s.at_ < xs.length
    · rw [show rend xs s = 15 from if_pos ⟨hz, hl⟩]
      have hlb : decide (s.at_ < xs.length) = true := decide_eq_true hl
      clear hz hl hb hzb
      go_enter Try.func44, Try.ntmps44
      go_wp2
      go_quiet (fail)
      go_wp2
      go_ret
      exact ⟨rfl, _, rfl⟩
    · rw [show rend xs s = s.err from if_neg (by omega)]
      have hlb : decide (s.at_ < xs.length) = false := decide_eq_false hl
      clear hz hl hb hzb
      go_enter Try.func44, Try.ntmps44
      go_wp2
      go_quiet (fail)
      go_wp2_with fail
      refine (err_is p A c xs s (w.drewN _) S H.out).mono ?_
      rintro e w' ⟨rfl, rfl⟩
      go_wp2_with fail
      go_ret
      exact ⟨rfl, _, rfl⟩
  · rw [show rend xs s = s.err from if_neg (by omega)]
    have hzb : (s.err == 0) = false := beq_eq_false_iff_ne.2 hz
    clear hz hb
    go_enter Try.func44, Try.ntmps44
    go_wp2
    go_quiet (fail)
    go_wp2_with fail
    refine (err_is p A c xs s (w.drewN _) S H.out).mono ?_
    rintro e w' ⟨rfl, rfl⟩
    go_wp2_with fail
    go_ret
    exact ⟨rfl, _, rfl⟩

set_option maxHeartbeats 1000000 in
theorem read_tri (A : Option Addr) (c : Nat) (xs : List Int) (h1 : xs.length ≤ c) (h2 : c ≤ 9223372036854775807) :
    Tri Try.prog 34 #[.slice A xs.length c] Emp (fun e => Some fun p => Fact (e = .returned (.pointer (some ⟨p, 0, none⟩))) (Rd p A c xs ⟨0, 0⟩)) := by
  intro w S h
  have hh := Sep.alloc Lcl.emp h #[.slice A xs.length c, .int .i64 0, .int .i64 0] 89
  have H := Lib.hid hh
  clear h hh
  go_enter Try.func34, Try.ntmps34
  go_wp2
  go_ret
  exact ⟨_, ⟨w.heap.size, rfl, ⟨by simp, by simp, by simp, h1, h2⟩, H.out.1.left_of_emp⟩, H.out.2⟩

end Go.Proofs.Ytfpeeilenocaoaa.Wire
/- The wire's reader, more: a word, nil ones. -/
namespace Go.Proofs.Ytfpeeilenocaoaa.Wire
open Go.RowKit Go.Proofs.Ytfpeeilenocaoaa.Own
attribute [local go_sem] max_ints min_ints

/-! ### a word -/
def rword (xs : List Int) (s : RS) : Nat × RS :=
  if rleft xs s < 4 then (0, rfail s 3) else (Bit.le4 (xs.getD s.at_ 0) (xs.getD (s.at_ + 1) 0) (xs.getD (s.at_ + 2) 0) (xs.getD (s.at_ + 3) 0), ⟨s.at_ + 4, s.err⟩)

set_option maxHeartbeats 1000000 in
set_option maxRecDepth 20000 in
theorem word_calls (p : Nat) (A : Option Addr) (c : Nat) (xs : List Int) (s : RS) (w : World) (S : Nat → Prop) (hx : IsBytes xs) (h : Rd p A c xs s w S) (hr : ∀ w', Keep S w w' → Reads w' .u8 A xs) :
    Calls Try.prog 37 #[.pointer (some ⟨p, 0, none⟩)] w fun r w' => ∃ S', Fact (r = .returned (.int .u32 (rword xs s).1)) (Rd p A c xs (rword xs s).2) w' S' ∧ Step S S' w w' := by
  have h1 := h.1.1
  by_cases hl : rleft xs s < 4
  · rw [show rword xs s = (0, rfail s 3) from if_pos hl]
    have hc := bytes_no p A c xs s 4 w S h (.inr (by omega)) (by omega)
    have HC := Lib.hid hc
    clear hc h hr hx hl
    go_enter Try.func37, Try.ntmps37
    go_wp2_with fail
    refine HC.out.mono ?_
    rintro e w1 ⟨S1, ⟨rfl, h1⟩, st1⟩
    have H1 := Lib.hid h1
    have ST1 := Lib.hid st1
    clear h1 st1
    go_wp2_with fail
    go_ret
    exact ⟨S1, ⟨rfl, H1.out⟩, ST1.out⟩
  · rw [show rword xs s = (Bit.le4 (xs.getD s.at_ 0) (xs.getD (s.at_ + 1) 0) (xs.getD (s.at_ + 2) 0) (xs.getD (s.at_ + 3) 0), ⟨s.at_ + 4, s.err⟩) from if_neg hl]
    have he : s.err = 0 := by
      apply Classical.byContradiction
      intro q
      have : rleft xs s = 0 := if_neg q
      omega
    have hl2 : rleft xs s = xs.length - s.at_ := if_pos he
    obtain ⟨b, o, rfl, hbs, hc0⟩ := (hr w (Keep.refl _ _)).at (show s.at_ < xs.length by omega)
    have hc := bytes_some p b o c xs s 4 w S h he (by omega) (by omega)
    have HC := Lib.hid hc
    have HR := Lib.hid hr
    have cell : ∀ (w1 : World) (hw : Keep S w w1) (i : Nat), i < 4 → w1.cell? ⟨b, o + s.at_ + i, none⟩ = some (.int .u8 (xs.getD (s.at_ + i) 0)) := by
      intro w1 hw i hi
      obtain ⟨b', o', q, _, hq⟩ := (hr w1 hw) (s.at_ + i) (by omega)
      injection q with q
      injection q with q1 q2 q3
      subst q1 q2
      rw [Nat.add_assoc]; exact hq
    have CE := Lib.hid cell
    have rg : ∀ i, i < xs.length → 0 ≤ xs.getD i 0 ∧ xs.getD i 0 ≤ 255 := fun i hi => hx _ (by simp [List.getD_eq_getElem?_getD, List.getElem?_eq_getElem hi])
    obtain ⟨z0, e0⟩ : ∃ z, xs.getD s.at_ 0 = z := ⟨_, rfl⟩
    obtain ⟨z1, e1⟩ : ∃ z, xs.getD (s.at_ + 1) 0 = z := ⟨_, rfl⟩
    obtain ⟨z2, e2⟩ : ∃ z, xs.getD (s.at_ + 2) 0 = z := ⟨_, rfl⟩
    obtain ⟨z3, e3⟩ : ∃ z, xs.getD (s.at_ + 3) 0 = z := ⟨_, rfl⟩
    have r0 := rg s.at_ (by omega)
    have r1 := rg (s.at_ + 1) (by omega)
    have r2 := rg (s.at_ + 2) (by omega)
    have r3 := rg (s.at_ + 3) (by omega)
    rw [e0] at r0; rw [e1] at r1; rw [e2] at r2; rw [e3] at r3
    have E0 := Lib.hid e0
    have E1 := Lib.hid e1
    have E2 := Lib.hid e2
    have E3 := Lib.hid e3
    rw [e0, e1, e2, e3]
    clear hc h hr hx hl hl2 he cell rg e0 e1 e2 e3 hc0 h1
    go_enter Try.func37, Try.ntmps37
    go_wp2_with fail
    refine HC.out.mono ?_
    rintro e w1 ⟨S1, ⟨rfl, h1⟩, st1⟩
    have H1 := Lib.hid h1
    have ST1 := Lib.hid st1
    have k0 := CE.out w1 st1.keep 0 (by omega)
    have k1 := CE.out w1 st1.keep 1 (by omega)
    have k2 := CE.out w1 st1.keep 2 (by omega)
    have k3 := CE.out w1 st1.keep 3 (by omega)
    simp only [Nat.add_zero] at k0
    rw [E0.out] at k0
    rw [E1.out] at k1; rw [E2.out] at k2; rw [E3.out] at k3
    clear h1 st1
    go_wp2_with fail
    go_quiet (fail)
    go_wp2
    go_ret
    exact ⟨S1, ⟨congrArg (fun x => Ending.returned (.int .u32 x)) (Bit.le4_bits r0 r1 r2 r3), H1.out⟩, ST1.out.drewN _⟩

/-! ### nil ones -/
set_option maxHeartbeats 1000000 in
theorem nil_wbyte (c : Int) (w : World) : Calls Try.prog 29 #[.pointer none, .int .u8 c] w fun e w' => e = .returned (.tuple #[]) ∧ ∃ n, w' = w.drewN n := by
  go_enter Try.func29, Try.ntmps29
  go_wp2_with (first | fail)
  go_end0
  exact by refine ⟨rfl, ?_⟩; first | exact ⟨0, rfl⟩ | exact ⟨_, rfl⟩
set_option maxHeartbeats 1000000 in
theorem nil_wput (v : Value) (w : World) : Calls Try.prog 30 #[.pointer none, v] w fun e w' => e = .returned (.tuple #[]) ∧ ∃ n, w' = w.drewN n := by
  go_enter Try.func30, Try.ntmps30
  go_wp2_with (first | fail)
  go_end0
  exact by refine ⟨rfl, ?_⟩; first | exact ⟨0, rfl⟩ | exact ⟨_, rfl⟩
set_option maxHeartbeats 1000000 in
theorem nil_wbytes (w : World) : Calls Try.prog 33 #[.pointer none] w fun e w' => e = .returned (.slice none 0 0) ∧ ∃ n, w' = w.drewN n := by
  go_enter Try.func33, Try.ntmps33
  go_wp2_with (first | fail)
  go_ret
  exact by refine ⟨rfl, ?_⟩; first | exact ⟨0, rfl⟩ | exact ⟨_, rfl⟩
set_option maxHeartbeats 1000000 in
theorem nil_rfail (c : Int) (w : World) : Calls Try.prog 49 #[.pointer none, .int .i64 c] w fun e w' => e = .returned (.tuple #[]) ∧ ∃ n, w' = w.drewN n := by
  go_enter Try.func49, Try.ntmps49
  go_wp2_with (first | fail)
  go_end0
  exact by refine ⟨rfl, ?_⟩; first | exact ⟨0, rfl⟩ | exact ⟨_, rfl⟩
set_option maxHeartbeats 1000000 in
theorem nil_rerr (w : World) : Calls Try.prog 39 #[.pointer none] w fun e w' => e = .returned (.int .i64 1) ∧ ∃ n, w' = w.drewN n := by
  go_enter Try.func39, Try.ntmps39
  go_wp2_with (first | fail)
  go_ret
  exact by refine ⟨rfl, ?_⟩; first | exact ⟨0, rfl⟩ | exact ⟨_, rfl⟩
set_option maxHeartbeats 1000000 in
theorem nil_rleft (w : World) : Calls Try.prog 48 #[.pointer none] w fun e w' => e = .returned (.int .i64 0) ∧ ∃ n, w' = w.drewN n := by
  go_enter Try.func48, Try.ntmps48
  go_wp2_with (first | fail)
  go_ret
  exact by refine ⟨rfl, ?_⟩; first | exact ⟨0, rfl⟩ | exact ⟨_, rfl⟩
set_option maxHeartbeats 1000000 in
theorem nil_rat (w : World) : Calls Try.prog 38 #[.pointer none] w fun e w' => e = .returned (.int .i64 0) ∧ ∃ n, w' = w.drewN n := by
  go_enter Try.func38, Try.ntmps38
  go_wp2_with (first | fail)
  go_ret
  exact by refine ⟨rfl, ?_⟩; first | exact ⟨0, rfl⟩ | exact ⟨_, rfl⟩
set_option maxHeartbeats 1000000 in
theorem nil_rbyte (w : World) : Calls Try.prog 36 #[.pointer none] w fun e w' => e = .returned (.int .u8 0) ∧ ∃ n, w' = w.drewN n := by
  go_enter Try.func36, Try.ntmps36
  go_wp2_with (first | (go_at_call 48; (with_reducible refine (nil_rleft _).mono ?_); rintro e w' ⟨rfl, n, rfl⟩) | (go_at_call 49; (with_reducible refine (nil_rfail _ _).mono ?_); rintro e w' ⟨rfl, n, rfl⟩))
  go_ret
  exact by refine ⟨rfl, ?_⟩; first | exact ⟨0, rfl⟩ | exact ⟨_, rfl⟩
set_option maxHeartbeats 1000000 in
theorem nil_rend (w : World) : Calls Try.prog 44 #[.pointer none] w fun e w' => e = .returned (.int .i64 1) ∧ ∃ n, w' = w.drewN n := by
  go_enter Try.func44, Try.ntmps44
  go_wp2_with (first | (go_at_call 39; (with_reducible refine (nil_rerr _).mono ?_); rintro e w' ⟨rfl, n, rfl⟩))
  go_quiet (fail)
  go_wp2_with (first | (go_at_call 39; (with_reducible refine (nil_rerr _).mono ?_); rintro e w' ⟨rfl, n, rfl⟩))
  go_ret
  exact by refine ⟨rfl, ?_⟩; first | exact ⟨0, rfl⟩ | exact ⟨_, rfl⟩

end Go.Proofs.Ytfpeeilenocaoaa.Wire
/- The wire's numbers, as functions on lists: what is put is taken as it was; what is taken is what would be put. No program is in sight. -/
namespace Go.Proofs.Ytfpeeilenocaoaa.Wire
open Go.RowKit Go.Proofs.Ytfpeeilenocaoaa.Own

theorem getD_of_drop {xs : List Int} {i : Nat} {c : Int} {r : List Int} (h : xs.drop i = c :: r) : i < xs.length ∧ xs.getD i 0 = c ∧ xs.drop (i + 1) = r := by
  have hi : i < xs.length := by
    apply Classical.byContradiction
    intro q
    rw [List.drop_of_length_le (by omega)] at h
    cases h
  rw [List.drop_eq_getElem_cons hi] at h
  injection h with h1 h2
  exact ⟨hi, by simp [List.getD_eq_getElem?_getD, List.getElem?_eq_getElem hi, h1], h2⟩

theorem rbyte_at {xs : List Int} {i : Nat} {c : Int} {r : List Int} (h : xs.drop i = c :: r) : rbyte xs ⟨i, 0⟩ = (c, ⟨i + 1, 0⟩) := by
  obtain ⟨h1, h2, _⟩ := getD_of_drop h
  unfold rbyte
  rw [if_pos ⟨rfl, h1⟩, h2]

theorem uone_at {xs : List Int} {k i : Nat} {c : Int} {r : List Int} (h : xs.drop i = c :: r) (hb : ubad k c = false) : uone xs k ⟨i, 0⟩ = (c, ⟨i + 1, 0⟩) := by
  unfold uone
  rw [rbyte_at h]
  simp only [hb, Bool.false_eq_true, if_false]

/-- What was put is taken. -/
theorem uloop_enc (xs : List Int) : ∀ (j m k acc i : Nat) (post : List Int), k + j = 9 → xs.drop i = enc m ++ post → m * 128 ^ k < 18446744073709551616 → (0 < k → 0 < m) →
    uloop xs (9 - k) acc ⟨i, 0⟩ = (some (acc + m * 128 ^ k), ⟨i + (enc m).length, 0⟩) := by
  intro j
  induction j with
  | zero =>
    intro m k acc i post hk hd hm h0
    obtain rfl : k = 9 := by omega
    have h5 : (128 : Nat) ^ 9 = 9223372036854775808 := by decide
    have hm1 : m ≤ 1 := by rw [h5] at hm; omega
    have hm2 := h0 (by omega)
    obtain rfl : m = 1 := by omega
    rw [enc_small (by omega)] at hd ⊢
    have hb : ubad 9 ((1 : Nat) : Int) = false := by decide
    have ho := uone_at (k := 9) hd hb
    rw [uloop_last (by omega) (by rw [ho]) (by rw [ho]; show ((1 : Nat) : Int) < 128; omega), ho]
    rfl
  | succ j ih =>
    intro m k acc i post hk hd hm h0
    by_cases hs : m < 128
    · rw [enc_small hs] at hd ⊢
      have hb : ubad k (m : Int) = false := by
        unfold ubad
        rcases Nat.eq_zero_or_pos k with h | h
        · subst h; simp
        · have := h0 h
          simp [show k ≠ 9 by omega, show m ≠ 0 by omega]
      have ho := uone_at (k := k) hd hb
      rw [uloop_last (by omega) (by rw [ho]) (by rw [ho]; show (m : Int) < 128; omega), ho]
      have e : ((m : Int) % 128).toNat = m := by omega
      simp only [e, List.length_singleton]
    · rw [enc_big hs] at hd ⊢
      have hb : ubad k ((m % 128 + 128 : Nat) : Int) = false := by
        unfold ubad
        rw [decide_eq_false (show ¬ k = 9 by omega), decide_eq_false (show ¬ (((m % 128 + 128 : Nat) : Int)) = 0 by omega)]
        simp
      have ho := uone_at (k := k) hd hb
      obtain ⟨_, _, hd2⟩ := getD_of_drop hd
      rw [uloop_next (by omega) (by rw [ho]) (by rw [ho]; show ¬ (((m % 128 + 128 : Nat) : Int)) < 128; omega), ho]
      have e : (((m % 128 + 128 : Nat) : Int) % 128).toNat = m % 128 := by omega
      simp only [e]
      have h6 : m / 128 * 128 ^ (k + 1) + m % 128 * 128 ^ k = m * 128 ^ k := by
        rw [Nat.pow_succ, Nat.mul_comm (128 ^ k) 128, ← Nat.mul_assoc, ← Nat.add_mul]
        congr 1; omega
      rw [ih (m / 128) (k + 1) _ (i + 1) post (by omega) hd2 (by omega) (fun _ => by omega)]
      rw [List.length_cons]
      congr 1
      · congr 1; omega
      · congr 1; omega

theorem rnum_enc {xs : List Int} {i n most : Nat} {post : List Int} (hd : xs.drop i = enc n ++ post) (hn : U64 n) (hm : n ≤ most) : rnum xs most ⟨i, 0⟩ = (n, ⟨i + (enc n).length, 0⟩) := by
  unfold rnum
  have := uloop_enc xs 9 n 0 0 i post rfl hd (by simpa using hn.lt) (fun h => absurd h (Nat.lt_irrefl 0))
  simp only [Nat.sub_zero, Nat.pow_zero, Nat.mul_one, Nat.zero_add] at this
  rw [this]
  simp only
  rw [if_neg (by omega)]
theorem rnum_many {xs : List Int} {i n most : Nat} {post : List Int} (hd : xs.drop i = enc n ++ post) (hn : U64 n) (hm : most < n) : rnum xs most ⟨i, 0⟩ = (0, ⟨i + (enc n).length, 7⟩) := by
  unfold rnum
  have := uloop_enc xs 9 n 0 0 i post rfl hd (by simpa using hn.lt) (fun h => absurd h (Nat.lt_irrefl 0))
  simp only [Nat.sub_zero, Nat.pow_zero, Nat.mul_one, Nat.zero_add] at this
  rw [this]
  simp only
  rw [if_pos hm]
  rfl

theorem uone_ok {xs : List Int} {k : Nat} {s : RS} (h : (uone xs k s).2.err = 0) : s.err = 0 ∧ s.at_ < xs.length ∧ (uone xs k s) = (xs.getD s.at_ 0, ⟨s.at_ + 1, 0⟩) ∧ ubad k (xs.getD s.at_ 0) = false ∧ xs.drop s.at_ = xs.getD s.at_ 0 :: xs.drop (s.at_ + 1) := by
  unfold uone at h ⊢
  by_cases hb : ubad k (rbyte xs s).1 = true
  · rw [hb] at h
    exact absurd h (rfail_ne _ (by omega))
  · simp only [Bool.not_eq_true] at hb
    rw [hb] at h ⊢
    simp only [Bool.false_eq_true, if_false] at h ⊢
    unfold rbyte at h hb ⊢
    by_cases hc : s.err = 0 ∧ s.at_ < xs.length
    · rw [if_pos hc] at h hb ⊢
      refine ⟨hc.1, hc.2, by rw [hc.1], hb, ?_⟩
      rw [List.drop_eq_getElem_cons hc.2]
      simp [List.getD_eq_getElem?_getD, List.getElem?_eq_getElem hc.2]
    · rw [if_neg hc] at h
      exact absurd h (rfail_ne _ (by omega))

/-- What is taken would be put so. -/
theorem uloop_back (xs : List Int) (hx : IsBytes xs) : ∀ (f n : Nat) (s : RS) (m : Nat) (s' : RS), f ≤ 9 → uloop xs f n s = (some m, s') →
    ∃ d, m = n + d * 128 ^ (9 - f) ∧ s.err = 0 ∧ s' = ⟨s.at_ + (enc d).length, 0⟩ ∧ s.at_ + (enc d).length ≤ xs.length ∧ xs.drop s.at_ = enc d ++ xs.drop (s.at_ + (enc d).length) ∧ (f < 9 → 0 < d) := by
  have hbyte : ∀ i, i < xs.length → 0 ≤ xs.getD i 0 ∧ xs.getD i 0 ≤ 255 := fun i hi => hx _ (by simp [List.getD_eq_getElem?_getD, List.getElem?_eq_getElem hi])
  have last : ∀ (k n : Nat) (s : RS) (m : Nat) (s' : RS), (uone xs k s).2.err = 0 → (uone xs k s).1 < 128 → (0 < k → (uone xs k s).1 ≠ 0) → (some (n + ((uone xs k s).1 % 128).toNat * 128 ^ k), (uone xs k s).2) = (some m, s') →
      ∃ d, m = n + d * 128 ^ k ∧ s.err = 0 ∧ s' = ⟨s.at_ + (enc d).length, 0⟩ ∧ s.at_ + (enc d).length ≤ xs.length ∧ xs.drop s.at_ = enc d ++ xs.drop (s.at_ + (enc d).length) ∧ (0 < k → 0 < d) := by
    intro k n s m s' he hz hne h
    obtain ⟨h1, h2, h3, h4, h5⟩ := uone_ok he
    obtain ⟨b0, b1⟩ := hbyte s.at_ h2
    rw [h3] at hz hne h
    injection h with e1 e2
    injection e1 with e1
    simp only at hz hne e1 e2
    have hd : enc ((xs.getD s.at_ 0).toNat) = [xs.getD s.at_ 0] := by rw [enc_small (by omega)]; congr 1; omega
    refine ⟨(xs.getD s.at_ 0).toNat, ?_, h1, ?_, ?_, ?_, fun hk => ?_⟩
    · rw [← e1, show (xs.getD s.at_ 0 % 128).toNat = (xs.getD s.at_ 0).toNat by omega]
    · rw [hd]; exact e2.symm
    · rw [hd]; simp only [List.length_singleton]; omega
    · rw [hd]; exact h5
    · have := hne hk; omega
  have nz : ∀ k s, (uone xs k s).2.err = 0 → 0 < k → (uone xs k s).1 ≠ 0 := by
    intro k s he hk
    obtain ⟨_, _, h3, h4, _⟩ := uone_ok he
    rw [h3]
    intro q
    simp only at q
    rw [q] at h4
    unfold ubad at h4
    simp [hk] at h4
  intro f
  induction f with
  | zero =>
    intro n s m s' _ h
    rw [uloop] at h
    split at h
    · cases h
    · rename_i he
      have he : (uone xs 9 s).2.err = 0 := by simpa using he
      have hz : (uone xs 9 s).1 < 128 := by
        obtain ⟨_, _, h3, h4, _⟩ := uone_ok he
        rw [h3]
        generalize xs.getD s.at_ 0 = z at h4
        unfold ubad at h4
        simp at h4
        simp only; omega
      obtain ⟨d, q⟩ := last 9 n s m s' he hz (nz 9 s he) h
      exact ⟨d, q.1, q.2.1, q.2.2.1, q.2.2.2.1, q.2.2.2.2.1, fun _ => q.2.2.2.2.2 (by omega)⟩
  | succ f ih =>
    intro n s m s' hf h
    rw [uloop] at h
    split at h
    · cases h
    · rename_i he
      have he : (uone xs (8 - f) s).2.err = 0 := by simpa using he
      rw [show 9 - (f + 1) = 8 - f by omega]
      split at h
      · rename_i hz
        obtain ⟨d, q⟩ := last (8 - f) n s m s' he hz (nz _ s he) h
        exact ⟨d, q.1, q.2.1, q.2.2.1, q.2.2.2.1, q.2.2.2.2.1, fun hk => q.2.2.2.2.2 (by omega)⟩
      · rename_i hz
        obtain ⟨h1, h2, h3, h4, h5⟩ := uone_ok he
        obtain ⟨b0, b1⟩ := hbyte s.at_ h2
        rw [h3] at hz h
        simp only at hz h
        obtain ⟨d, q1, q2, q3, q4, q5, q6⟩ := ih _ _ m s' (by omega) h
        have hd0 := q6 (by omega)
        have hc : ((xs.getD s.at_ 0).toNat % 128 + d * 128) % 128 + 128 = (xs.getD s.at_ 0).toNat := by omega
        have he2 : enc ((xs.getD s.at_ 0).toNat % 128 + d * 128) = xs.getD s.at_ 0 :: enc d := by
          rw [enc_big (by omega), hc, show ((xs.getD s.at_ 0).toNat % 128 + d * 128) / 128 = d by omega]
          congr 1; omega
        refine ⟨(xs.getD s.at_ 0).toNat % 128 + d * 128, ?_, h1, ?_, ?_, ?_, fun _ => by omega⟩
        · rw [q1, show 9 - f = (8 - f) + 1 by omega, Nat.pow_succ, Nat.add_mul, show (xs.getD s.at_ 0 % 128).toNat = (xs.getD s.at_ 0).toNat % 128 by omega, Nat.mul_comm (128 ^ (8 - f)) 128, Nat.mul_assoc d 128, Nat.add_assoc]
        · rw [he2, q3, List.length_cons]; simp only; congr 1; omega
        · rw [he2, List.length_cons]; simp only at q4; omega
        · rw [he2, List.length_cons, List.cons_append]
          simp only at q5
          rw [h5]
          congr 1
          rw [q5]
          congr 2
          omega

theorem rnum_back {xs : List Int} (hx : IsBytes xs) {most : Nat} {s : RS} (h : (rnum xs most s).2.err = 0) :
    s.err = 0 ∧ (rnum xs most s).1 ≤ most ∧ (rnum xs most s).2 = ⟨s.at_ + (enc (rnum xs most s).1).length, 0⟩ ∧ s.at_ + (enc (rnum xs most s).1).length ≤ xs.length ∧ xs.drop s.at_ = enc (rnum xs most s).1 ++ xs.drop (s.at_ + (enc (rnum xs most s).1).length) := by
  unfold rnum at h ⊢
  cases hu : uloop xs 9 0 s with
  | mk o s' =>
    rw [hu] at h
    cases o with
    | none =>
      simp only at h
      exfalso
      have key : ∀ (f n : Nat) (s s' : RS), uloop xs f n s = (none, s') → s'.err ≠ 0 := by
        intro f
        induction f with
        | zero =>
          intro n s s' h
          rw [uloop] at h
          split at h
          · rename_i he
            injection h with _ h
            rw [← h]; exact he
          · cases h
        | succ f ih =>
          intro n s s' h
          rw [uloop] at h
          split at h
          · rename_i he
            injection h with _ h
            rw [← h]; exact he
          · split at h
            · cases h
            · exact ih _ _ _ h
      exact key 9 0 s s' hu h
    | some m =>
      simp only at h ⊢
      obtain ⟨d, q1, q2, q3, q4, q5, _⟩ := uloop_back xs hx 9 0 s m s' (by omega) hu
      simp only [Nat.sub_self, Nat.pow_zero, Nat.mul_one, Nat.zero_add] at q1
      subst q1
      by_cases hm : most < m
      · rw [if_pos hm] at h
        exact absurd h (rfail_ne _ (by omega))
      · rw [if_neg hm]
        exact ⟨q2, by omega, q3, q4, q5⟩

theorem enc_bytes : ∀ n, IsBytes (enc n) := by
  intro n
  induction n using Nat.strongRecOn with
  | _ n ih =>
    by_cases h : n < 128
    · rw [enc_small h]; intro x hx; simp at hx; omega
    · rw [enc_big h]
      intro x hx
      rcases List.mem_cons.1 hx with rfl | hx
      · omega
      · exact ih _ (by omega) x hx
theorem IsBytes.app {a b : List Int} (ha : IsBytes a) (hb : IsBytes b) : IsBytes (a ++ b) := fun x hx => (List.mem_append.1 hx).elim (ha x) (hb x)

end Go.Proofs.Ytfpeeilenocaoaa.Wire
