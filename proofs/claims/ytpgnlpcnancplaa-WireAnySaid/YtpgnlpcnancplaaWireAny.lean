/- P1, P1.2: any bytes: numbers whose bytes they are, or an error, that stays: at every input, without conditions. -/
import Derived.Test.YtpgnlpcnancplaaWireErr
import Derived.Test.YtpgnlpcnancplaaWireRef
namespace Go.Proofs.Ytpgnlpcnancplaa.Wire
open Go.RowKit Go.Proofs.Ytpgnlpcnancplaa.Own Go.Proofs.Ytpgnlpcnancplaa.Rely
attribute [local go_sem] max_ints min_ints

/-- What was taken from the place s to the place t has the bytes E; if nothing could be, nothing came. -/
def Took (xs : List Int) (s t : RS) (E : List Int) (sm : Bool) : Prop :=
  (t.err = 0 → s.err = 0 ∧ s.at_ ≤ t.at_ ∧ E = (xs.drop s.at_).take (t.at_ - s.at_)) ∧ (t.err ≠ 0 → sm = false ∧ (s.err ≠ 0 → t.err = s.err))
theorem rfail_same {s : RS} {e : Int} (h : s.err ≠ 0) : rfail s e = s := by unfold rfail; rw [if_neg h]
theorem uloop_stop {xs : List Int} {s : RS} (h : s.err ≠ 0) : uloop xs 9 0 s = (none, s) := by
  have hb : rbyte xs s = (0, s) := by unfold rbyte; rw [if_neg (fun q => h q.1), rfail_same h]
  have ho : uone xs 0 s = (0, s) := by unfold uone; rw [hb]; rfl
  unfold uloop
  rw [show 8 - 8 = 0 from rfl, ho, if_pos h]
theorem uloop_ok (xs : List Int) : ∀ (f n : Nat) (s : RS) (m : Nat) (s' : RS), uloop xs f n s = (some m, s') → s'.err = 0
  | 0, n, s, m, s', h => by
    unfold uloop at h
    split at h
    · cases h
    · rename_i hq
      cases h
      exact Decidable.not_not.1 hq
  | f + 1, n, s, m, s', h => by
    unfold uloop at h
    split at h
    · cases h
    · rename_i hq
      split at h
      · cases h
        exact Decidable.not_not.1 hq
      · exact uloop_ok xs f _ _ m s' h
theorem rnum_le (xs : List Int) (most : Nat) (s : RS) : (rnum xs most s).1 ≤ most := by
  unfold rnum
  split
  · exact Nat.zero_le _
  · split
    · exact Nat.zero_le _
    · exact Nat.le_of_not_lt (by assumption)
theorem rnum_none {xs : List Int} {most : Nat} {s : RS} (h : (rnum xs most s).2.err ≠ 0) : (rnum xs most s).1 = 0 ∧ (s.err ≠ 0 → (rnum xs most s).2.err = s.err) := by
  refine ⟨?_, fun hs => ?_⟩
  · unfold rnum at h ⊢
    split
    · rfl
    · rename_i n s' he
      split
      · rfl
      · rename_i hq
        exfalso
        rw [he] at h
        simp only [if_neg hq] at h
        exact h (uloop_ok xs _ _ _ _ _ he)
  · unfold rnum
    rw [uloop_stop hs]
theorem took_num {xs : List Int} (hx : IsBytes xs) (most : Nat) (s : RS) {sm : Bool} (hsm : (rnum xs most s).1 = 0 → sm = false) : Took xs s (rnum xs most s).2 (enc (rnum xs most s).1) sm := by
  refine ⟨fun h => ?_, fun h => ?_⟩
  · obtain ⟨h1, _, h3, h4, h5⟩ := rnum_back hx h
    rw [h3]
    refine ⟨h1, by simp, ?_⟩
    rw [h5]
    simp
  · obtain ⟨h1, h2⟩ := rnum_none h
    exact ⟨hsm h1, h2⟩
theorem took_byte {xs : List Int} (s : RS) {sm : Bool} (hsm : (rbyte xs s).1 = 0 → sm = false) : Took xs s (rbyte xs s).2 [(rbyte xs s).1] sm := by
  unfold rbyte at *
  split
  · rename_i hq
    rw [if_pos hq] at hsm
    refine ⟨fun _ => ⟨hq.1, by simp, ?_⟩, fun h => absurd hq.1 h⟩
    show [xs.getD s.at_ 0] = (xs.drop s.at_).take (s.at_ + 1 - s.at_)
    rw [show s.at_ + 1 - s.at_ = 1 by omega, List.drop_eq_getElem_cons hq.2, List.take_succ_cons, List.take_zero, List.getD_eq_getElem?_getD, List.getElem?_eq_getElem hq.2]
    rfl
  · rename_i hq
    rw [if_neg hq] at hsm
    refine ⟨fun h => ?_, fun _ => ⟨hsm rfl, fun hs => by rw [rfail_same hs]⟩⟩
    exfalso
    revert h
    simp only
    unfold rfail
    split
    · simp
    · assumption
theorem word4_le4 {a b c d : Int} (ha : 0 ≤ a ∧ a ≤ 255) (hb : 0 ≤ b ∧ b ≤ 255) (hc : 0 ≤ c ∧ c ≤ 255) (hd : 0 ≤ d ∧ d ≤ 255) : word4 (Bit.le4 a b c d) = [a, b, c, d] ∧ Bit.le4 a b c d ≤ 4294967295 := by
  unfold word4 Bit.le4
  simp only [List.cons.injEq, and_true]
  omega
theorem rfail_err {s : RS} {e : Int} (he : e ≠ 0) : (rfail s e).err ≠ 0 := rfail_ne s he
theorem rword_le {xs : List Int} (hx : IsBytes xs) (s : RS) : (rword xs s).1 ≤ 4294967295 := by
  unfold rword
  split
  · simp
  · rename_i hq
    have hl : s.at_ + 4 ≤ xs.length := by unfold rleft at hq; split at hq <;> omega
    have hb : ∀ i, i < xs.length → 0 ≤ xs.getD i 0 ∧ xs.getD i 0 ≤ 255 := fun i hi => hx _ (by rw [List.getD_eq_getElem?_getD, List.getElem?_eq_getElem hi]; exact List.getElem_mem hi)
    exact (word4_le4 (hb _ (by omega)) (hb _ (by omega)) (hb _ (by omega)) (hb _ (by omega))).2
theorem took_word {xs : List Int} (hx : IsBytes xs) (s : RS) {sm : Bool} (hsm : (rword xs s).1 = 0 → sm = false) : Took xs s (rword xs s).2 (word4 (rword xs s).1) sm := by
  unfold rword at *
  split
  · rename_i hq
    rw [if_pos hq] at hsm
    exact ⟨fun h => absurd h (rfail_err (by decide)), fun _ => ⟨hsm rfl, fun hs => by rw [rfail_same hs]⟩⟩
  · rename_i hq
    rw [if_neg hq] at hsm
    have h0 : s.err = 0 := by
      unfold rleft at hq
      split at hq
      · assumption
      · omega
    have hl : s.at_ + 4 ≤ xs.length := by unfold rleft at hq; split at hq <;> omega
    have hb : ∀ i, i < xs.length → 0 ≤ xs.getD i 0 ∧ xs.getD i 0 ≤ 255 := fun i hi => hx _ (by rw [List.getD_eq_getElem?_getD, List.getElem?_eq_getElem hi]; exact List.getElem_mem hi)
    refine ⟨fun _ => ⟨h0, by simp, ?_⟩, fun h => absurd h0 h⟩
    simp only
    rw [(word4_le4 (hb _ (by omega)) (hb _ (by omega)) (hb _ (by omega)) (hb _ (by omega))).1, show s.at_ + 4 - s.at_ = 4 by omega]
    apply List.ext_getElem
    · simp; omega
    · intro i h1 h2
      have h1' : i < 4 := by simpa using h1
      rw [List.getElem_take, List.getElem_drop]
      match i, h1' with
      | 0, _ => simp [List.getD_eq_getElem?_getD, List.getElem?_eq_getElem (show s.at_ < xs.length by omega)]
      | 1, _ => simp [List.getD_eq_getElem?_getD, List.getElem?_eq_getElem (show s.at_ + 1 < xs.length by omega)]
      | 2, _ => simp [List.getD_eq_getElem?_getD, List.getElem?_eq_getElem (show s.at_ + 2 < xs.length by omega)]
      | 3, _ => simp [List.getD_eq_getElem?_getD, List.getElem?_eq_getElem (show s.at_ + 3 < xs.length by omega)]
theorem took_bytes {xs : List Int} (s : RS) (n : Int) {sm : Bool} (hsm : (rbytes xs s n).1 = [] → sm = false) (hn : n ≤ 8) : Took xs s (rbytes xs s n).2 (rbytes xs s n).1 sm := by
  unfold rbytes at *
  split
  · rename_i hq
    rw [if_pos hq] at hsm
    exact ⟨fun h => absurd h (rfail_err (by decide)), fun _ => ⟨hsm rfl, fun hs => by rw [rfail_same hs]⟩⟩
  · rename_i hq
    rw [if_neg hq] at hsm
    refine ⟨fun h => ⟨h, by simp, by simp⟩, fun h => ?_⟩
    have h' : s.err ≠ 0 := h
    have h0 : rleft xs s = 0 := by unfold rleft; rw [if_neg h']
    have hn0 : n = 0 := by omega
    subst hn0
    exact ⟨hsm (by simp), fun _ => rfl⟩
/-! ### the law -/
theorem zag_range {u : Nat} (h : U64 u) : -9223372036854775808 ≤ Bit.zag u ∧ Bit.zag u ≤ 9223372036854775807 := by
  have := h.lt
  unfold Bit.zag
  split <;> omega
theorem rbyte_none {xs : List Int} {s : RS} (h : (rbyte xs s).2.err ≠ 0) : (rbyte xs s).1 = 0 := by
  unfold rbyte at *
  split
  · rename_i hq
    rw [if_pos hq] at h
    exact absurd hq.1 h
  · rfl
theorem rword_none {xs : List Int} {s : RS} (h : (rword xs s).2.err ≠ 0) : (rword xs s).1 = 0 := by
  unfold rword at *
  split
  · rfl
  · rename_i hq
    rw [if_neg hq] at h
    have h' : s.err ≠ 0 := h
    unfold rleft at hq
    rw [if_neg h'] at hq
    omega
theorem rbytes_none {xs : List Int} {s : RS} {n : Int} (h : (rbytes xs s n).2.err ≠ 0) : (rbytes xs s n).1 = [] := by
  unfold rbytes at *
  split
  · rfl
  · rename_i hq
    rw [if_neg hq] at h
    have h' : s.err ≠ 0 := h
    have h0 : rleft xs s = 0 := by unfold rleft; rw [if_neg h']
    have hn0 : n.toNat = 0 := by omega
    show (xs.drop s.at_).take n.toNat = []
    rw [hn0, List.take_zero]
theorem rbytes_len {xs : List Int} {s : RS} {n : Int} (h : n ≤ 8) : (rbytes xs s n).1.length ≤ 8 := by
  unfold rbytes
  split
  · simp
  · simp; omega
theorem tmod9 (n : Int) : -8 ≤ Int.tmod n 9 ∧ Int.tmod n 9 ≤ 8 := by
  rcases Int.lt_or_le n 0 with h | h
  · have : Int.tmod n 9 = -((-n) % 9) := by
      rw [← Int.tmod_eq_emod_of_nonneg (by omega), Int.neg_tmod, Int.neg_neg]
    omega
  · rw [Int.tmod_eq_emod_of_nonneg h]; omega
/-- What the bytes are, whatever the reader does. -/
theorem rd_reads {p : Nat} {A : Option Addr} {c : Nat} {xs : List Int} {s : RS} {w : World} {S1 : Nat → Prop} (h : Rd p A c xs s w S1) (hr : Reads w .u8 A xs) (hne : ∀ a, A = some a → xs.length ≠ 0 → a.block ≠ p) : ∀ w', Keep S1 w w' → Reads w' .u8 A xs :=
  fun w' hk => by
    by_cases h0 : xs.length = 0
    · intro i hi; omega
    · exact hr.keep hk (fun a e hs => hne a e h0 ((h.2.2 a.block).1 hs))
theorem num_b {p : Nat} {A : Option Addr} {c : Nat} {xs : List Int} {s : RS} {B : Asn} (hB : Lcl B) (most : Nat) (hx : IsBytes xs) {w : World} {S : Nat → Prop} (h : Sep (Rd p A c xs s) B w S) (hr : Reads w .u8 A xs) (hne : ∀ a, A = some a → xs.length ≠ 0 → a.block ≠ p) :
    Calls Try.prog 31 #[.pointer (some ⟨p, 0, none⟩), .int .u64 most] w fun e w' => ∃ S', (e = .returned (.int .u64 (rnum xs most s).1) ∧ Sep B (Rd p A c xs (rnum xs most s).2) w' S') ∧ Step S S' w w' := by
  refine (Calls.sep hB h (fun S1 a => uint_calls p A c xs s most w S1 hx a (rd_reads a hr hne))).mono ?_
  rintro e w' ⟨S', h', st⟩
  obtain ⟨q, h'⟩ := Sep.fact h'
  exact ⟨S', ⟨q, h'.comm⟩, st⟩
theorem int_b {p : Nat} {A : Option Addr} {c : Nat} {xs : List Int} {s : RS} {B : Asn} (hB : Lcl B) (hx : IsBytes xs) {w : World} {S : Nat → Prop} (h : Sep (Rd p A c xs s) B w S) (hr : Reads w .u8 A xs) (hne : ∀ a, A = some a → xs.length ≠ 0 → a.block ≠ p) :
    Calls Try.prog 32 #[.pointer (some ⟨p, 0, none⟩)] w fun e w' => ∃ S', (e = .returned (.int .i64 (Bit.zag (rnum xs 18446744073709551615 s).1)) ∧ Sep B (Rd p A c xs (rnum xs 18446744073709551615 s).2) w' S') ∧ Step S S' w w' := by
  refine (Calls.sep hB h (fun S1 a => int_calls p A c xs s w S1 hx a (rd_reads a hr hne))).mono ?_
  rintro e w' ⟨S', h', st⟩
  obtain ⟨q, h'⟩ := Sep.fact h'
  exact ⟨S', ⟨q, h'.comm⟩, st⟩
theorem byte_b {p : Nat} {A : Option Addr} {c : Nat} {xs : List Int} {s : RS} {B : Asn} (hB : Lcl B) {w : World} {S : Nat → Prop} (h : Sep (Rd p A c xs s) B w S) (hr : Reads w .u8 A xs) :
    Calls Try.prog 43 #[.pointer (some ⟨p, 0, none⟩)] w fun e w' => ∃ S', (e = .returned (.int .u8 (rbyte xs s).1) ∧ Sep B (Rd p A c xs (rbyte xs s).2) w' S') ∧ Step S S' w w' := by
  refine (Calls.sep hB h (fun S1 a => byte_calls p A c xs s w S1 a hr)).mono ?_
  rintro e w' ⟨S', h', st⟩
  obtain ⟨q, h'⟩ := Sep.fact h'
  exact ⟨S', ⟨q, h'.comm⟩, st⟩
theorem word_b {p : Nat} {A : Option Addr} {c : Nat} {xs : List Int} {s : RS} {B : Asn} (hB : Lcl B) (hx : IsBytes xs) {w : World} {S : Nat → Prop} (h : Sep (Rd p A c xs s) B w S) (hr : Reads w .u8 A xs) (hne : ∀ a, A = some a → xs.length ≠ 0 → a.block ≠ p) :
    Calls Try.prog 45 #[.pointer (some ⟨p, 0, none⟩)] w fun e w' => ∃ S', (e = .returned (.int .u32 (rword xs s).1) ∧ Sep B (Rd p A c xs (rword xs s).2) w' S') ∧ Step S S' w w' := by
  refine (Calls.sep hB h (fun S1 a => word_calls p A c xs s w S1 hx a (rd_reads a hr hne))).mono ?_
  rintro e w' ⟨S', h', st⟩
  obtain ⟨q, h'⟩ := Sep.fact h'
  exact ⟨S', ⟨q, h'.comm⟩, st⟩
theorem bytes_b {p : Nat} {A : Option Addr} {c : Nat} {xs : List Int} {s : RS} {B : Asn} (hB : Lcl B) (n : Int) (n1 : n ≤ 9223372036854775807) {w : World} {S : Nat → Prop} (h : Sep (Rd p A c xs s) B w S) (hr : Reads w .u8 A xs) (hne : ∀ a, A = some a → xs.length ≠ 0 → a.block ≠ p) :
    Calls Try.prog 34 #[.pointer (some ⟨p, 0, none⟩), .int .i64 n] w fun e w' => ∃ S' A', (e = .returned (.slice A' (rbytes xs s n).1.length (rbytes xs s n).1.length) ∧ Sep B (Rd p A c xs (rbytes xs s n).2) w' S' ∧ Reads w' .u8 A' (rbytes xs s n).1) ∧ Step S S' w w' := by
  obtain ⟨S1, S2, a, b, d, e⟩ := h
  have hS : S = fun k => S1 k ∨ S2 k := funext fun k => propext (e k)
  refine (bytes_calls p A c xs s n w S1 a hr n1).mono ?_
  rintro e' w' ⟨S', A', ⟨q, h'⟩, st, hrd, _⟩
  have hk := rd_reads a hr hne w' st.keep
  have := Sep.step hB (A' := Rd p A c xs (rbytes xs s n).2) b d h' st
  rw [hS]
  exact ⟨_, A', ⟨q, this.1.comm, hrd _ hk⟩, this.2⟩
theorem reads_part {w : World} {b o : Nat} {xs : List Int} (h : Reads w .u8 (some ⟨b, o, none⟩) xs) (i n : Nat) : Reads w .u8 (some ⟨b, o + i, none⟩) ((xs.drop i).take n) := by
  intro j hj
  rw [List.length_take, List.length_drop] at hj
  obtain ⟨b', o', e, hl, hc⟩ := h (i + j) (by omega)
  cases e
  refine ⟨b, o + i, rfl, hl, ?_⟩
  rw [show o + i + j = o + (i + j) by omega, hc]
  simp [List.getD_eq_getElem?_getD, List.getElem?_take, List.getElem?_drop, show j < n by omega]

set_option maxHeartbeats 32000000 in
set_option maxRecDepth 20000 in
theorem any_wf (A : Option Addr) (c : Nat) (xs : List Int) (B : Option Addr) (d : Nat) (ks : List Int) (most n : Int) (w : World) (h : ArgI w .u8 A c xs) (h' : ArgI w .u8 B d ks) (hm : (Lit.int .u64 most).wf = true) (hn : (Lit.int .i64 n).wf = true) :
    Calls Try.prog 8 #[.slice A xs.length c, .slice B ks.length d, .int .u64 most, .int .i64 n] w fun e w' => e = .returned (.bool true) ∧ Below w.heap.size w w' := by
  have HA := Lib.hid h.reads
  have HB := Lib.hid h'.reads
  have HX := Lib.hid (show IsBytes xs from fun x hx => wf_u8 (h.rng x hx))
  have HV := Lib.hid (show IsBytes ks from fun x hx => wf_u8 (h'.rng x hx))
  have hm2 := wf_u64 hm
  have hn2 := wf_i64 hn
  obtain ⟨mo, rfl⟩ : ∃ m : Nat, most = (m : Int) := ⟨most.toNat, by omega⟩
  obtain ⟨n9, hn9, hn9b⟩ : ∃ m, Int.tmod n 9 = m ∧ (-8 ≤ m ∧ m ≤ 8) := ⟨_, rfl, tmod9 n⟩
  have hc1 := h.le
  have hc2 : c ≤ 9223372036854775807 := h.cap
  have HNE : RowKit.Hid (∀ a, A = some a → xs.length ≠ 0 → a.block < w.heap.size) := Lib.hid (fun a e hl => by
    obtain ⟨b, o, e2, hb, _⟩ := h.reads 0 (by omega)
    rw [e] at e2; cases e2; exact hb)
  clear h h' hm hn
  go_enter Try.func8, Try.ntmps8
  go_wp2_with fail
  refine (awake_tri w (fun _ => False) (fun _ x => x)).mono ?_
  rintro e w1 ⟨S1, ⟨rfl, _⟩, hst1⟩
  have X1 := Lib.hid (show Ext w w1 from belowF hst1)
  clear hst1
  by_cases hla : 100 < xs.length
  · have g1 : decide ((100 : Int) < (xs.length : Int)) = true := by simp <;> omega
    go_wp2_with fail
    go_ret
    exact ⟨rfl, X1.out⟩
  have g1 : decide ((100 : Int) < (xs.length : Int)) = false := by simp <;> omega
  by_cases hlk : 60 < ks.length
  · have g2 : decide ((60 : Int) < (ks.length : Int)) = true := by simp <;> omega
    go_wp2_with fail
    go_ret
    exact ⟨rfl, X1.out⟩
  have g2 : decide ((60 : Int) < (ks.length : Int)) = false := by simp <;> omega
  have hxl : xs.length ≤ 100 := by omega
  have hkl : ks.length ≤ 60 := by omega
  go_wp2_with fail
  refine (read_tri A c xs hc1 hc2 w1 (fun _ => False) (fun _ x => x)).mono ?_
  rintro e w2 ⟨S2, ⟨p, rfl, hrd⟩, st2⟩
  have HR0 := Lib.hid hrd
  have ST0 := Lib.hid st2
  have hpf : w1.heap.size ≤ p := by
    rcases st2.fresh p ((hrd.2.2 p).2 rfl) with q | q
    · exact absurd q id
    · exact q
  have HPN : RowKit.Hid (∀ a, A = some a → xs.length ≠ 0 → a.block ≠ p) := Lib.hid (fun a e hl => by
    have h1 := HNE.out a e hl
    have h2 := X1.out.size
    omega)
  clear hrd st2 HNE
  go_wp2_with fail
  go_loopw [36] (fun i wr => ∃ (j : Nat) (s : RS) (S' : Nat → Prop), j ≤ ks.length ∧ i = .int .i64 j ∧ Rd p A c xs s wr S' ∧ Step (fun _ => False) S' w1 wr) (fun i _ => ks.length - (intOf i).toNat)
  case atStart => exact ⟨0, ⟨0, 0⟩, S2, by omega, rfl, HR0.out, ST0.out⟩
  case round =>
    clear HR0 ST0
    obtain ⟨j, s, S', hj, rfl, hm, hst⟩ := hrel
    have HM := Lib.hid hm
    have ST := Lib.hid hst
    have hfa := hm.1
    clear hm hst
    have HRW := Lib.hid ((Ext.trans _ _ _ X1.out (show Ext w1 wr from ST.out.keep.below (Nat.le_refl _) (fun _ _ x => x))).reads HA.out)
    by_cases hlt : j < ks.length
    · have hj4 : (j : Int) < (ks.length : Int) := by omega
      obtain ⟨b, o, rfl, _, cx⟩ := ((Ext.trans _ _ _ X1.out (show Ext w1 wr from ST.out.keep.below (Nat.le_refl _) (fun _ _ x => x))).reads HB.out) j hlt
      have hx0 := HV.out (ks.getD j 0) (by rw [List.getD_eq_getElem?_getD, List.getElem?_eq_getElem hlt]; exact List.getElem_mem hlt)
      obtain ⟨K, hK, hKb⟩ : ∃ K : Nat, ks.getD j 0 = (K : Int) ∧ K ≤ 255 := ⟨(ks.getD j 0).toNat, by omega, by omega⟩
      rw [hK] at cx
      clear hx0 hK
      have n1 := new_writer (loc_rd p A c xs s) HM.out
      have HN1 := Lib.hid n1.1.comm
      have STN := Lib.hid (ST.out.trans n1.2)
      have HRN := Lib.hid (HRW.out.later (show Ext wr (wr.alloc (.cells #[.slice none 0 0] 28)) from (Below.refl _ _).alloc (Nat.le_refl _) _))
      clear n1
      have hat := hfa.1
      go_wp2_with fail
      refine (at_is p A c xs s wr _ HM.out).mono ?_
      rintro e w3 ⟨rfl, rfl⟩
      go_wp2_with fail
      refine (err_is p A c xs s wr _ HM.out).mono ?_
      rintro e w3 ⟨rfl, rfl⟩
      generalize hww : wr.alloc (.cells #[.slice none 0 0] 28) = w4 at HN1 STN HRN
      generalize hqq : wr.heap.size = q at HN1 STN
      have hr5 : K % 5 = 0 ∨ K % 5 = 1 ∨ K % 5 = 2 ∨ K % 5 = 3 ∨ K % 5 = 4 := by omega
      rcases hr5 with h5 | h5 | h5 | h5 | h5
      · have ht5 : Int.tmod (K : Int) 5 = 0 := by rw [Int.tmod_eq_emod_of_nonneg (by omega)]; omega
        clear h5
        go_wp2_with fail
        refine (num_b (loc_wr q []) mo HX.out HN1.out HRN.out HPN.out).mono ?_
        rintro e w5 ⟨S5, ⟨rfl, hh5⟩, st5⟩
        have hu := rnum_lt xs HX.out mo s
        have hle := rnum_le xs mo s
        have HT1 := Lib.hid (took_num HX.out mo s (sm := false) (fun _ => rfl))
        have HT2 := Lib.hid (fun h => (rnum_none (xs := xs) (most := mo) (s := s) h).1)
        generalize (rnum xs mo s).1 = N at *
        generalize (rnum xs mo s).2 = s2 at *
        have H5 := Lib.hid hh5
        have ST5 := Lib.hid (STN.out.trans st5)
        clear hh5 st5
        go_wp2_with fail
        refine ((uint_tri q [] N (by decide) hu).frame (loc_rd p A c xs s2) _ _ H5.out).mono ?_
        rintro e w6 ⟨S6, hh6, st6⟩
        obtain ⟨rfl, hh7⟩ := Sep.fact hh6
        rw [List.nil_append] at hh7
        have H6 := Lib.hid hh7
        have ST6 := Lib.hid (ST5.out.trans st6)
        have hEl := enc_ten hu
        clear hh6 hh7 st6 H5 ST5
        have HRD6 := Lib.hid (Sep.left H6.out.comm).choose_spec.1
        have HWR6 := Lib.hid (Sep.left H6.out).choose_spec.1
        have HRX := Lib.hid ((Ext.trans _ _ _ X1.out (show Ext w1 w6 from ST6.out.keep.below (Nat.le_refl _) (fun _ _ x => x))).reads HA.out)
        have HRDS := Lib.hid (Sep.left H6.out.comm).choose_spec.2
        have h2f := HRD6.out.1
        have hd : decide (mo < N) = false := by simp; omega
        by_cases he : s2.err = 0
        · obtain ⟨hs0, hle2, hE⟩ := HT1.out.1 he
          generalize enc N = E at H6 HWR6 hEl HT1 hE
          have HEH := Lib.hid hE
          clear hE
          go_wp2_with fail
          refine (err_is p A c xs s2 w6 _ HRD6.out).mono ?_
          rintro e w7 ⟨rfl, rfl⟩
          rw [he]
          go_wp2_with fail
          refine wp_region_rely (by kernel_rfl) Ext Ext.refl Ext.trans [[(14, none)], [(102, some 0)], [(103, some 1)], [(0, none)], [(12, none)], [(9, none)], [(107, some 5)], [(105, some 3), (106, some 4), (108, some 6)], [(109, some 7)], [(104, some 2), (110, some 8)]] [some 102, some 103, some 104, some 105, some 106, some 107, some 108, some 109, some 110, some 111] (by kernel_rfl) (by kernel_rfl) ?_
          apply rely_const; case h => (intro wq hR a h14 K hK; go_wp2_with fail; exact Ext.refl _)
          refine rely_rel (fun v wq => ∃ A1 c1, v = .slice A1 E.length c1 ∧ Reads wq .u8 A1 E) (fun v w w' ⟨A1, c1, e, k⟩ x => ⟨A1, c1, e, x.reads k⟩) ?_ ?_
          · intro wq hR a h102 K hK
            have HK := Lib.hid hK
            clear hK
            go_wp2_with fail
            refine (wbytes_c q E (by omega) wq _ (Ext.keep (loc_wr _ _) hR.undrew HWR6.out)).mono ?_
            rintro e w8 ⟨A1, c1, rfl, hrd, hx8, _⟩
            have HX8 := Lib.hid hx8
            have HRD8 := Lib.hid hrd
            clear hx8 hrd
            go_wp2_with fail
            exact HK.out _ _ HX8.out ⟨A1, c1, rfl, HRD8.out⟩
          apply rely_const; case h => (
            rintro wq hR a v h103 ⟨A1, c1, rfl, hrd⟩ K hK
            have hcv : (convert 26 9 (.slice A1 E.length c1)).run Try.prog wq = .ok (.string (strOfNums E)) wq := hrd.string (P := Try.prog) Try.underlying26 Try.underlying5 Try.underlying9 c1
            clear hrd
            go_wp2_with fail
            exact Ext.refl _)
          apply rely_const; case h => (intro wq hR a h0 K hK; go_wp2_with fail; exact Ext.refl _)
          apply rely_const; case h => (intro wq hR a h12 K hK; go_wp2_with fail; exact Ext.refl _)
          apply rely_const; case h => (intro wq hR a h9 K hK; go_wp2_with fail; exact Ext.refl _)
          apply rely_const
          case h =>
            intro wq hR a h107 K hK
            go_wp2_with fail
            refine (at_is p A c xs s2 wq _ (Ext.keep (loc_rd _ _ _ _ _) hR.undrew HRD6.out)).mono ?_
            rintro e w8 ⟨rfl, rfl⟩
            go_wp2_with fail
            exact Ext.refl _
          refine rely_rel (fun v wq => ∃ A1 c1, v = .slice A1 E.length c1 ∧ Reads wq .u8 A1 E) (fun v w w' ⟨A1, c1, e, k⟩ x => ⟨A1, c1, e, x.reads k⟩) ?_ ?_
          · intro wq hR a h105 h106 h108 K hK
            have HK := Lib.hid hK
            have HRQ := Lib.hid (hR.undrew.reads HRX.out)
            clear hK
            have HEL := Lib.hid (show E.length = s2.at_ - s.at_ by rw [HEH.out, List.length_take, List.length_drop]; omega)
            by_cases hz : s2.at_ = s.at_
            · have hEz : E = [] := List.eq_nil_of_length_eq_zero (by have := HEL.out; omega)
              rw [hz] at h108
              have hsc : s.at_ ≤ c := by omega
              clear HEL HEH
              subst hEz
              cases A with
              | none =>
                go_wp2_with fail
                exact HK.out _ _ (Ext.refl _) ⟨_, _, rfl, fun i hi => absurd hi (Nat.not_lt_zero i)⟩
              | some ad =>
                go_wp2_with fail
                all_goals exact HK.out _ _ (Ext.refl _) ⟨_, _, rfl, fun i hi => absurd hi (Nat.not_lt_zero i)⟩
            · obtain ⟨ab, ao, rfl, _, _⟩ := HRQ.out s.at_ (by omega)
              have hsc : s2.at_ ≤ c := by omega
              have hsl : s.at_ ≤ s2.at_ := hle2
              have hscc : ¬ s.at_ = c := by omega
              have hrp := reads_part HRQ.out s.at_ (s2.at_ - s.at_)
              rw [← HEH.out] at hrp
              have HRP := Lib.hid hrp
              clear hrp
              go_wp2_with fail
              rw [← HEL.out]
              exact HK.out _ _ (Ext.refl _) ⟨_, _, rfl, HRP.out⟩
          apply rely_const; case h => (
            rintro wq hR a v h109 ⟨A1, c1, rfl, hrd⟩ K hK
            have hcv : (convert 26 9 (.slice A1 E.length c1)).run Try.prog wq = .ok (.string (strOfNums E)) wq := hrd.string (P := Try.prog) Try.underlying26 Try.underlying5 Try.underlying9 c1
            clear hrd
            go_wp2_with fail
            exact Ext.refl _)
          apply rely_const; case h => (intro wq hR a h104 h110 K hK; have hse := str_eq (rfl : E = E); go_wp2_with fail; exact Ext.refl _)
          refine rely_end ?_
          intro wq hR
          simp only [ends, Act.put, List.setIfInBounds_toArray, List.set_cons_zero, List.set_cons_succ]
          intro v1 _ v2 _
          have XQ := Lib.hid hR.undrew
          clear hR
          have HRDQ := Lib.hid (Ext.keep (loc_rd _ _ _ _ _) XQ.out HRD6.out)
          have STQ := Lib.hid ((ST6.out.trans (show Step S6 S6 w6 wq from ⟨Keep.of_below XQ.out, fun _ h => .inl h⟩)).less HRDS.out)
          go_wp2_with fail
          exact ⟨⟨j + 1, s2, _, by omega, by go_num, HRDQ.out, STQ.out⟩, by simp [intOf]; omega⟩
        · have hN0 := HT2.out he
          subst hN0
          go_wp2_with fail
          have hse := HT1.out.2 he
          have hne : (s2.err == 0) = false := by rw [beq_eq_false_iff_ne]; exact he
          go_wp2_with fail
          refine (err_is p A c xs s2 w6 _ HRD6.out).mono ?_
          rintro e w7 ⟨rfl, rfl⟩
          go_wp2_with fail
          refine (left_is p A c xs s2 w6 _ HRD6.out).mono ?_
          rintro e w7 ⟨rfl, nn, rfl⟩
          rw [show rleft xs s2 = 0 by unfold rleft; rw [if_neg he]]
          have HRDQ := Lib.hid (Ext.keep (loc_rd _ _ _ _ _) (ext_drewN w6 nn) HRD6.out)
          have STQ := Lib.hid ((ST6.out.trans (show Step S6 S6 w6 (w6.drewN nn) from ⟨Keep.of_below (ext_drewN w6 nn), fun _ h => .inl h⟩)).less HRDS.out)
          by_cases hs0 : s.err = 0
          · have hz1 : (s.err == 0) = true := by simpa using hs0
            have hz2 : (s.err != 0) = false := by simpa using hs0
            go_wp2_with fail
            exact ⟨⟨j + 1, s2, _, by omega, by go_num, HRDQ.out, STQ.out⟩, by simp [intOf]; omega⟩
          · have hz1 : (s.err == 0) = false := by rw [beq_eq_false_iff_ne]; exact hs0
            have hz2 : (s.err != 0) = true := by simpa using hs0
            go_wp2_with fail
            refine (err_is p A c xs s2 _ _ HRDQ.out).mono ?_
            rintro e w7 ⟨rfl, rfl⟩
            rw [hse.2 hs0]
            go_wp2_with fail
            exact ⟨⟨j + 1, s2, _, by omega, by go_num, HRDQ.out, STQ.out⟩, by simp [intOf]; omega⟩
      · have ht5 : Int.tmod (K : Int) 5 = 1 := by rw [Int.tmod_eq_emod_of_nonneg (by omega)]; omega
        clear h5
        go_wp2_with fail
        refine (int_b (loc_wr q []) HX.out HN1.out HRN.out HPN.out).mono ?_
        rintro e w5 ⟨S5, ⟨rfl, hh5⟩, st5⟩
        have hu := rnum_lt xs HX.out 18446744073709551615 s
        have HT1 := Lib.hid (took_num HX.out 18446744073709551615 s (sm := false) (fun _ => rfl))
        have HT2 := Lib.hid (fun h => (rnum_none (xs := xs) (most := 18446744073709551615) (s := s) h).1)
        generalize (rnum xs 18446744073709551615 s).1 = N at *
        generalize (rnum xs 18446744073709551615 s).2 = s2 at *
        have hzb : -9223372036854775808 ≤ Bit.zag N ∧ Bit.zag N ≤ 9223372036854775807 := zag_range hu
        have H5 := Lib.hid hh5
        have ST5 := Lib.hid (STN.out.trans st5)
        clear hh5 st5
        go_wp2_with fail
        refine ((int_tri q [] (Bit.zag N) (by decide) hzb.1 hzb.2).frame (loc_rd p A c xs s2) _ _ H5.out).mono ?_
        rintro e w6 ⟨S6, hh6, st6⟩
        obtain ⟨rfl, hh7⟩ := Sep.fact hh6
        rw [List.nil_append, Bit.zig_zag] at hh7
        have H6 := Lib.hid hh7
        have ST6 := Lib.hid (ST5.out.trans st6)
        have hEl := enc_ten hu
        clear hh6 hh7 st6 H5 ST5
        have HRD6 := Lib.hid (Sep.left H6.out.comm).choose_spec.1
        have HWR6 := Lib.hid (Sep.left H6.out).choose_spec.1
        have HRX := Lib.hid ((Ext.trans _ _ _ X1.out (show Ext w1 w6 from ST6.out.keep.below (Nat.le_refl _) (fun _ _ x => x))).reads HA.out)
        have HRDS := Lib.hid (Sep.left H6.out.comm).choose_spec.2
        have h2f := HRD6.out.1
        by_cases he : s2.err = 0
        · obtain ⟨hs0, hle2, hE⟩ := HT1.out.1 he
          generalize enc N = E at H6 HWR6 hEl HT1 hE
          have HEH := Lib.hid hE
          clear hE
          go_wp2_with fail
          refine (err_is p A c xs s2 w6 _ HRD6.out).mono ?_
          rintro e w7 ⟨rfl, rfl⟩
          rw [he]
          go_wp2_with fail
          refine wp_region_rely (by kernel_rfl) Ext Ext.refl Ext.trans [[(14, none)], [(102, some 0)], [(103, some 1)], [(0, none)], [(12, none)], [(9, none)], [(107, some 5)], [(105, some 3), (106, some 4), (108, some 6)], [(109, some 7)], [(104, some 2), (110, some 8)]] [some 102, some 103, some 104, some 105, some 106, some 107, some 108, some 109, some 110, some 111] (by kernel_rfl) (by kernel_rfl) ?_
          apply rely_const; case h => (intro wq hR a h14 K hK; go_wp2_with fail; exact Ext.refl _)
          refine rely_rel (fun v wq => ∃ A1 c1, v = .slice A1 E.length c1 ∧ Reads wq .u8 A1 E) (fun v w w' ⟨A1, c1, e, k⟩ x => ⟨A1, c1, e, x.reads k⟩) ?_ ?_
          · intro wq hR a h102 K hK
            have HK := Lib.hid hK
            clear hK
            go_wp2_with fail
            refine (wbytes_c q E (by omega) wq _ (Ext.keep (loc_wr _ _) hR.undrew HWR6.out)).mono ?_
            rintro e w8 ⟨A1, c1, rfl, hrd, hx8, _⟩
            have HX8 := Lib.hid hx8
            have HRD8 := Lib.hid hrd
            clear hx8 hrd
            go_wp2_with fail
            exact HK.out _ _ HX8.out ⟨A1, c1, rfl, HRD8.out⟩
          apply rely_const; case h => (
            rintro wq hR a v h103 ⟨A1, c1, rfl, hrd⟩ K hK
            have hcv : (convert 26 9 (.slice A1 E.length c1)).run Try.prog wq = .ok (.string (strOfNums E)) wq := hrd.string (P := Try.prog) Try.underlying26 Try.underlying5 Try.underlying9 c1
            clear hrd
            go_wp2_with fail
            exact Ext.refl _)
          apply rely_const; case h => (intro wq hR a h0 K hK; go_wp2_with fail; exact Ext.refl _)
          apply rely_const; case h => (intro wq hR a h12 K hK; go_wp2_with fail; exact Ext.refl _)
          apply rely_const; case h => (intro wq hR a h9 K hK; go_wp2_with fail; exact Ext.refl _)
          apply rely_const
          case h =>
            intro wq hR a h107 K hK
            go_wp2_with fail
            refine (at_is p A c xs s2 wq _ (Ext.keep (loc_rd _ _ _ _ _) hR.undrew HRD6.out)).mono ?_
            rintro e w8 ⟨rfl, rfl⟩
            go_wp2_with fail
            exact Ext.refl _
          refine rely_rel (fun v wq => ∃ A1 c1, v = .slice A1 E.length c1 ∧ Reads wq .u8 A1 E) (fun v w w' ⟨A1, c1, e, k⟩ x => ⟨A1, c1, e, x.reads k⟩) ?_ ?_
          · intro wq hR a h105 h106 h108 K hK
            have HK := Lib.hid hK
            have HRQ := Lib.hid (hR.undrew.reads HRX.out)
            clear hK
            have HEL := Lib.hid (show E.length = s2.at_ - s.at_ by rw [HEH.out, List.length_take, List.length_drop]; omega)
            by_cases hz : s2.at_ = s.at_
            · have hEz : E = [] := List.eq_nil_of_length_eq_zero (by have := HEL.out; omega)
              rw [hz] at h108
              have hsc : s.at_ ≤ c := by omega
              clear HEL HEH
              subst hEz
              cases A with
              | none =>
                go_wp2_with fail
                exact HK.out _ _ (Ext.refl _) ⟨_, _, rfl, fun i hi => absurd hi (Nat.not_lt_zero i)⟩
              | some ad =>
                go_wp2_with fail
                all_goals exact HK.out _ _ (Ext.refl _) ⟨_, _, rfl, fun i hi => absurd hi (Nat.not_lt_zero i)⟩
            · obtain ⟨ab, ao, rfl, _, _⟩ := HRQ.out s.at_ (by omega)
              have hsc : s2.at_ ≤ c := by omega
              have hsl : s.at_ ≤ s2.at_ := hle2
              have hscc : ¬ s.at_ = c := by omega
              have hrp := reads_part HRQ.out s.at_ (s2.at_ - s.at_)
              rw [← HEH.out] at hrp
              have HRP := Lib.hid hrp
              clear hrp
              go_wp2_with fail
              rw [← HEL.out]
              exact HK.out _ _ (Ext.refl _) ⟨_, _, rfl, HRP.out⟩
          apply rely_const; case h => (
            rintro wq hR a v h109 ⟨A1, c1, rfl, hrd⟩ K hK
            have hcv : (convert 26 9 (.slice A1 E.length c1)).run Try.prog wq = .ok (.string (strOfNums E)) wq := hrd.string (P := Try.prog) Try.underlying26 Try.underlying5 Try.underlying9 c1
            clear hrd
            go_wp2_with fail
            exact Ext.refl _)
          apply rely_const; case h => (intro wq hR a h104 h110 K hK; have hse := str_eq (rfl : E = E); go_wp2_with fail; exact Ext.refl _)
          refine rely_end ?_
          intro wq hR
          simp only [ends, Act.put, List.setIfInBounds_toArray, List.set_cons_zero, List.set_cons_succ]
          intro v1 _ v2 _
          have XQ := Lib.hid hR.undrew
          clear hR
          have HRDQ := Lib.hid (Ext.keep (loc_rd _ _ _ _ _) XQ.out HRD6.out)
          have STQ := Lib.hid ((ST6.out.trans (show Step S6 S6 w6 wq from ⟨Keep.of_below XQ.out, fun _ h => .inl h⟩)).less HRDS.out)
          go_wp2_with fail
          exact ⟨⟨j + 1, s2, _, by omega, by go_num, HRDQ.out, STQ.out⟩, by simp [intOf]; omega⟩
        · have hN0 := HT2.out he
          subst hN0
          rw [show Bit.zag 0 = 0 from rfl]
          have hse := HT1.out.2 he
          have hne : (s2.err == 0) = false := by rw [beq_eq_false_iff_ne]; exact he
          go_wp2_with fail
          refine (err_is p A c xs s2 w6 _ HRD6.out).mono ?_
          rintro e w7 ⟨rfl, rfl⟩
          go_wp2_with fail
          refine (left_is p A c xs s2 w6 _ HRD6.out).mono ?_
          rintro e w7 ⟨rfl, nn, rfl⟩
          rw [show rleft xs s2 = 0 by unfold rleft; rw [if_neg he]]
          have HRDQ := Lib.hid (Ext.keep (loc_rd _ _ _ _ _) (ext_drewN w6 nn) HRD6.out)
          have STQ := Lib.hid ((ST6.out.trans (show Step S6 S6 w6 (w6.drewN nn) from ⟨Keep.of_below (ext_drewN w6 nn), fun _ h => .inl h⟩)).less HRDS.out)
          by_cases hs0 : s.err = 0
          · have hz1 : (s.err == 0) = true := by simpa using hs0
            have hz2 : (s.err != 0) = false := by simpa using hs0
            go_wp2_with fail
            exact ⟨⟨j + 1, s2, _, by omega, by go_num, HRDQ.out, STQ.out⟩, by simp [intOf]; omega⟩
          · have hz1 : (s.err == 0) = false := by rw [beq_eq_false_iff_ne]; exact hs0
            have hz2 : (s.err != 0) = true := by simpa using hs0
            go_wp2_with fail
            refine (err_is p A c xs s2 _ _ HRDQ.out).mono ?_
            rintro e w7 ⟨rfl, rfl⟩
            rw [hse.2 hs0]
            go_wp2_with fail
            exact ⟨⟨j + 1, s2, _, by omega, by go_num, HRDQ.out, STQ.out⟩, by simp [intOf]; omega⟩
      · have ht5 : Int.tmod (K : Int) 5 = 2 := by rw [Int.tmod_eq_emod_of_nonneg (by omega)]; omega
        clear h5
        go_wp2_with fail
        refine (byte_b (loc_wr q []) HN1.out HRN.out).mono ?_
        rintro e w5 ⟨S5, ⟨rfl, hh5⟩, st5⟩
        have HT1 := Lib.hid (took_byte (xs := xs) s (sm := false) (fun _ => rfl))
        have HT2 := Lib.hid (fun h => rbyte_none (xs := xs) (s := s) h)
        generalize (rbyte xs s).1 = N at *
        generalize (rbyte xs s).2 = s2 at *
        have H5 := Lib.hid hh5
        have ST5 := Lib.hid (STN.out.trans st5)
        clear hh5 st5
        go_wp2_with fail
        refine ((byte_tri q [] N (by decide)).frame (loc_rd p A c xs s2) _ _ H5.out).mono ?_
        rintro e w6 ⟨S6, hh6, st6⟩
        obtain ⟨rfl, hh7⟩ := Sep.fact hh6
        rw [List.nil_append] at hh7
        have H6 := Lib.hid hh7
        have ST6 := Lib.hid (ST5.out.trans st6)
        have hEl : ([N] : List Int).length ≤ 10 := by simp
        clear hh6 hh7 st6 H5 ST5
        have HRD6 := Lib.hid (Sep.left H6.out.comm).choose_spec.1
        have HWR6 := Lib.hid (Sep.left H6.out).choose_spec.1
        have HRX := Lib.hid ((Ext.trans _ _ _ X1.out (show Ext w1 w6 from ST6.out.keep.below (Nat.le_refl _) (fun _ _ x => x))).reads HA.out)
        have HRDS := Lib.hid (Sep.left H6.out.comm).choose_spec.2
        have h2f := HRD6.out.1
        by_cases he : s2.err = 0
        · obtain ⟨hs0, hle2, hE⟩ := HT1.out.1 he
          generalize ([N] : List Int) = E at H6 HWR6 hEl HT1 hE
          have HEH := Lib.hid hE
          clear hE
          go_wp2_with fail
          refine (err_is p A c xs s2 w6 _ HRD6.out).mono ?_
          rintro e w7 ⟨rfl, rfl⟩
          rw [he]
          go_wp2_with fail
          refine wp_region_rely (by kernel_rfl) Ext Ext.refl Ext.trans [[(14, none)], [(102, some 0)], [(103, some 1)], [(0, none)], [(12, none)], [(9, none)], [(107, some 5)], [(105, some 3), (106, some 4), (108, some 6)], [(109, some 7)], [(104, some 2), (110, some 8)]] [some 102, some 103, some 104, some 105, some 106, some 107, some 108, some 109, some 110, some 111] (by kernel_rfl) (by kernel_rfl) ?_
          apply rely_const; case h => (intro wq hR a h14 K hK; go_wp2_with fail; exact Ext.refl _)
          refine rely_rel (fun v wq => ∃ A1 c1, v = .slice A1 E.length c1 ∧ Reads wq .u8 A1 E) (fun v w w' ⟨A1, c1, e, k⟩ x => ⟨A1, c1, e, x.reads k⟩) ?_ ?_
          · intro wq hR a h102 K hK
            have HK := Lib.hid hK
            clear hK
            go_wp2_with fail
            refine (wbytes_c q E (by omega) wq _ (Ext.keep (loc_wr _ _) hR.undrew HWR6.out)).mono ?_
            rintro e w8 ⟨A1, c1, rfl, hrd, hx8, _⟩
            have HX8 := Lib.hid hx8
            have HRD8 := Lib.hid hrd
            clear hx8 hrd
            go_wp2_with fail
            exact HK.out _ _ HX8.out ⟨A1, c1, rfl, HRD8.out⟩
          apply rely_const; case h => (
            rintro wq hR a v h103 ⟨A1, c1, rfl, hrd⟩ K hK
            have hcv : (convert 26 9 (.slice A1 E.length c1)).run Try.prog wq = .ok (.string (strOfNums E)) wq := hrd.string (P := Try.prog) Try.underlying26 Try.underlying5 Try.underlying9 c1
            clear hrd
            go_wp2_with fail
            exact Ext.refl _)
          apply rely_const; case h => (intro wq hR a h0 K hK; go_wp2_with fail; exact Ext.refl _)
          apply rely_const; case h => (intro wq hR a h12 K hK; go_wp2_with fail; exact Ext.refl _)
          apply rely_const; case h => (intro wq hR a h9 K hK; go_wp2_with fail; exact Ext.refl _)
          apply rely_const
          case h =>
            intro wq hR a h107 K hK
            go_wp2_with fail
            refine (at_is p A c xs s2 wq _ (Ext.keep (loc_rd _ _ _ _ _) hR.undrew HRD6.out)).mono ?_
            rintro e w8 ⟨rfl, rfl⟩
            go_wp2_with fail
            exact Ext.refl _
          refine rely_rel (fun v wq => ∃ A1 c1, v = .slice A1 E.length c1 ∧ Reads wq .u8 A1 E) (fun v w w' ⟨A1, c1, e, k⟩ x => ⟨A1, c1, e, x.reads k⟩) ?_ ?_
          · intro wq hR a h105 h106 h108 K hK
            have HK := Lib.hid hK
            have HRQ := Lib.hid (hR.undrew.reads HRX.out)
            clear hK
            have HEL := Lib.hid (show E.length = s2.at_ - s.at_ by rw [HEH.out, List.length_take, List.length_drop]; omega)
            by_cases hz : s2.at_ = s.at_
            · have hEz : E = [] := List.eq_nil_of_length_eq_zero (by have := HEL.out; omega)
              rw [hz] at h108
              have hsc : s.at_ ≤ c := by omega
              clear HEL HEH
              subst hEz
              cases A with
              | none =>
                go_wp2_with fail
                exact HK.out _ _ (Ext.refl _) ⟨_, _, rfl, fun i hi => absurd hi (Nat.not_lt_zero i)⟩
              | some ad =>
                go_wp2_with fail
                all_goals exact HK.out _ _ (Ext.refl _) ⟨_, _, rfl, fun i hi => absurd hi (Nat.not_lt_zero i)⟩
            · obtain ⟨ab, ao, rfl, _, _⟩ := HRQ.out s.at_ (by omega)
              have hsc : s2.at_ ≤ c := by omega
              have hsl : s.at_ ≤ s2.at_ := hle2
              have hscc : ¬ s.at_ = c := by omega
              have hrp := reads_part HRQ.out s.at_ (s2.at_ - s.at_)
              rw [← HEH.out] at hrp
              have HRP := Lib.hid hrp
              clear hrp
              go_wp2_with fail
              rw [← HEL.out]
              exact HK.out _ _ (Ext.refl _) ⟨_, _, rfl, HRP.out⟩
          apply rely_const; case h => (
            rintro wq hR a v h109 ⟨A1, c1, rfl, hrd⟩ K hK
            have hcv : (convert 26 9 (.slice A1 E.length c1)).run Try.prog wq = .ok (.string (strOfNums E)) wq := hrd.string (P := Try.prog) Try.underlying26 Try.underlying5 Try.underlying9 c1
            clear hrd
            go_wp2_with fail
            exact Ext.refl _)
          apply rely_const; case h => (intro wq hR a h104 h110 K hK; have hse := str_eq (rfl : E = E); go_wp2_with fail; exact Ext.refl _)
          refine rely_end ?_
          intro wq hR
          simp only [ends, Act.put, List.setIfInBounds_toArray, List.set_cons_zero, List.set_cons_succ]
          intro v1 _ v2 _
          have XQ := Lib.hid hR.undrew
          clear hR
          have HRDQ := Lib.hid (Ext.keep (loc_rd _ _ _ _ _) XQ.out HRD6.out)
          have STQ := Lib.hid ((ST6.out.trans (show Step S6 S6 w6 wq from ⟨Keep.of_below XQ.out, fun _ h => .inl h⟩)).less HRDS.out)
          go_wp2_with fail
          exact ⟨⟨j + 1, s2, _, by omega, by go_num, HRDQ.out, STQ.out⟩, by simp [intOf]; omega⟩
        · have hN0 := HT2.out he
          subst hN0
          have hse := HT1.out.2 he
          have hne : (s2.err == 0) = false := by rw [beq_eq_false_iff_ne]; exact he
          go_wp2_with fail
          refine (err_is p A c xs s2 w6 _ HRD6.out).mono ?_
          rintro e w7 ⟨rfl, rfl⟩
          go_wp2_with fail
          refine (left_is p A c xs s2 w6 _ HRD6.out).mono ?_
          rintro e w7 ⟨rfl, nn, rfl⟩
          rw [show rleft xs s2 = 0 by unfold rleft; rw [if_neg he]]
          have HRDQ := Lib.hid (Ext.keep (loc_rd _ _ _ _ _) (ext_drewN w6 nn) HRD6.out)
          have STQ := Lib.hid ((ST6.out.trans (show Step S6 S6 w6 (w6.drewN nn) from ⟨Keep.of_below (ext_drewN w6 nn), fun _ h => .inl h⟩)).less HRDS.out)
          by_cases hs0 : s.err = 0
          · have hz1 : (s.err == 0) = true := by simpa using hs0
            have hz2 : (s.err != 0) = false := by simpa using hs0
            go_wp2_with fail
            exact ⟨⟨j + 1, s2, _, by omega, by go_num, HRDQ.out, STQ.out⟩, by simp [intOf]; omega⟩
          · have hz1 : (s.err == 0) = false := by rw [beq_eq_false_iff_ne]; exact hs0
            have hz2 : (s.err != 0) = true := by simpa using hs0
            go_wp2_with fail
            refine (err_is p A c xs s2 _ _ HRDQ.out).mono ?_
            rintro e w7 ⟨rfl, rfl⟩
            rw [hse.2 hs0]
            go_wp2_with fail
            exact ⟨⟨j + 1, s2, _, by omega, by go_num, HRDQ.out, STQ.out⟩, by simp [intOf]; omega⟩
      · have ht5 : Int.tmod (K : Int) 5 = 3 := by rw [Int.tmod_eq_emod_of_nonneg (by omega)]; omega
        clear h5
        go_wp2_with fail
        refine (word_b (loc_wr q []) HX.out HN1.out HRN.out HPN.out).mono ?_
        rintro e w5 ⟨S5, ⟨rfl, hh5⟩, st5⟩
        have hu := rword_le HX.out s
        have HT1 := Lib.hid (took_word HX.out s (sm := false) (fun _ => rfl))
        have HT2 := Lib.hid (fun h => rword_none (xs := xs) (s := s) h)
        generalize (rword xs s).1 = N at *
        generalize (rword xs s).2 = s2 at *
        have H5 := Lib.hid hh5
        have ST5 := Lib.hid (STN.out.trans st5)
        clear hh5 st5
        go_wp2_with fail
        refine ((word_tri q [] N (by decide) hu).frame (loc_rd p A c xs s2) _ _ H5.out).mono ?_
        rintro e w6 ⟨S6, hh6, st6⟩
        obtain ⟨rfl, hh7⟩ := Sep.fact hh6
        rw [List.nil_append] at hh7
        have H6 := Lib.hid hh7
        have ST6 := Lib.hid (ST5.out.trans st6)
        have hEl : (word4 N).length ≤ 10 := by simp [word4]
        clear hh6 hh7 st6 H5 ST5
        have HRD6 := Lib.hid (Sep.left H6.out.comm).choose_spec.1
        have HWR6 := Lib.hid (Sep.left H6.out).choose_spec.1
        have HRX := Lib.hid ((Ext.trans _ _ _ X1.out (show Ext w1 w6 from ST6.out.keep.below (Nat.le_refl _) (fun _ _ x => x))).reads HA.out)
        have HRDS := Lib.hid (Sep.left H6.out.comm).choose_spec.2
        have h2f := HRD6.out.1
        by_cases he : s2.err = 0
        · obtain ⟨hs0, hle2, hE⟩ := HT1.out.1 he
          generalize word4 N = E at H6 HWR6 hEl HT1 hE
          have HEH := Lib.hid hE
          clear hE
          go_wp2_with fail
          refine (err_is p A c xs s2 w6 _ HRD6.out).mono ?_
          rintro e w7 ⟨rfl, rfl⟩
          rw [he]
          go_wp2_with fail
          refine wp_region_rely (by kernel_rfl) Ext Ext.refl Ext.trans [[(14, none)], [(102, some 0)], [(103, some 1)], [(0, none)], [(12, none)], [(9, none)], [(107, some 5)], [(105, some 3), (106, some 4), (108, some 6)], [(109, some 7)], [(104, some 2), (110, some 8)]] [some 102, some 103, some 104, some 105, some 106, some 107, some 108, some 109, some 110, some 111] (by kernel_rfl) (by kernel_rfl) ?_
          apply rely_const; case h => (intro wq hR a h14 K hK; go_wp2_with fail; exact Ext.refl _)
          refine rely_rel (fun v wq => ∃ A1 c1, v = .slice A1 E.length c1 ∧ Reads wq .u8 A1 E) (fun v w w' ⟨A1, c1, e, k⟩ x => ⟨A1, c1, e, x.reads k⟩) ?_ ?_
          · intro wq hR a h102 K hK
            have HK := Lib.hid hK
            clear hK
            go_wp2_with fail
            refine (wbytes_c q E (by omega) wq _ (Ext.keep (loc_wr _ _) hR.undrew HWR6.out)).mono ?_
            rintro e w8 ⟨A1, c1, rfl, hrd, hx8, _⟩
            have HX8 := Lib.hid hx8
            have HRD8 := Lib.hid hrd
            clear hx8 hrd
            go_wp2_with fail
            exact HK.out _ _ HX8.out ⟨A1, c1, rfl, HRD8.out⟩
          apply rely_const; case h => (
            rintro wq hR a v h103 ⟨A1, c1, rfl, hrd⟩ K hK
            have hcv : (convert 26 9 (.slice A1 E.length c1)).run Try.prog wq = .ok (.string (strOfNums E)) wq := hrd.string (P := Try.prog) Try.underlying26 Try.underlying5 Try.underlying9 c1
            clear hrd
            go_wp2_with fail
            exact Ext.refl _)
          apply rely_const; case h => (intro wq hR a h0 K hK; go_wp2_with fail; exact Ext.refl _)
          apply rely_const; case h => (intro wq hR a h12 K hK; go_wp2_with fail; exact Ext.refl _)
          apply rely_const; case h => (intro wq hR a h9 K hK; go_wp2_with fail; exact Ext.refl _)
          apply rely_const
          case h =>
            intro wq hR a h107 K hK
            go_wp2_with fail
            refine (at_is p A c xs s2 wq _ (Ext.keep (loc_rd _ _ _ _ _) hR.undrew HRD6.out)).mono ?_
            rintro e w8 ⟨rfl, rfl⟩
            go_wp2_with fail
            exact Ext.refl _
          refine rely_rel (fun v wq => ∃ A1 c1, v = .slice A1 E.length c1 ∧ Reads wq .u8 A1 E) (fun v w w' ⟨A1, c1, e, k⟩ x => ⟨A1, c1, e, x.reads k⟩) ?_ ?_
          · intro wq hR a h105 h106 h108 K hK
            have HK := Lib.hid hK
            have HRQ := Lib.hid (hR.undrew.reads HRX.out)
            clear hK
            have HEL := Lib.hid (show E.length = s2.at_ - s.at_ by rw [HEH.out, List.length_take, List.length_drop]; omega)
            by_cases hz : s2.at_ = s.at_
            · have hEz : E = [] := List.eq_nil_of_length_eq_zero (by have := HEL.out; omega)
              rw [hz] at h108
              have hsc : s.at_ ≤ c := by omega
              clear HEL HEH
              subst hEz
              cases A with
              | none =>
                go_wp2_with fail
                exact HK.out _ _ (Ext.refl _) ⟨_, _, rfl, fun i hi => absurd hi (Nat.not_lt_zero i)⟩
              | some ad =>
                go_wp2_with fail
                all_goals exact HK.out _ _ (Ext.refl _) ⟨_, _, rfl, fun i hi => absurd hi (Nat.not_lt_zero i)⟩
            · obtain ⟨ab, ao, rfl, _, _⟩ := HRQ.out s.at_ (by omega)
              have hsc : s2.at_ ≤ c := by omega
              have hsl : s.at_ ≤ s2.at_ := hle2
              have hscc : ¬ s.at_ = c := by omega
              have hrp := reads_part HRQ.out s.at_ (s2.at_ - s.at_)
              rw [← HEH.out] at hrp
              have HRP := Lib.hid hrp
              clear hrp
              go_wp2_with fail
              rw [← HEL.out]
              exact HK.out _ _ (Ext.refl _) ⟨_, _, rfl, HRP.out⟩
          apply rely_const; case h => (
            rintro wq hR a v h109 ⟨A1, c1, rfl, hrd⟩ K hK
            have hcv : (convert 26 9 (.slice A1 E.length c1)).run Try.prog wq = .ok (.string (strOfNums E)) wq := hrd.string (P := Try.prog) Try.underlying26 Try.underlying5 Try.underlying9 c1
            clear hrd
            go_wp2_with fail
            exact Ext.refl _)
          apply rely_const; case h => (intro wq hR a h104 h110 K hK; have hse := str_eq (rfl : E = E); go_wp2_with fail; exact Ext.refl _)
          refine rely_end ?_
          intro wq hR
          simp only [ends, Act.put, List.setIfInBounds_toArray, List.set_cons_zero, List.set_cons_succ]
          intro v1 _ v2 _
          have XQ := Lib.hid hR.undrew
          clear hR
          have HRDQ := Lib.hid (Ext.keep (loc_rd _ _ _ _ _) XQ.out HRD6.out)
          have STQ := Lib.hid ((ST6.out.trans (show Step S6 S6 w6 wq from ⟨Keep.of_below XQ.out, fun _ h => .inl h⟩)).less HRDS.out)
          go_wp2_with fail
          exact ⟨⟨j + 1, s2, _, by omega, by go_num, HRDQ.out, STQ.out⟩, by simp [intOf]; omega⟩
        · have hN0 := HT2.out he
          subst hN0
          have hse := HT1.out.2 he
          have hne : (s2.err == 0) = false := by rw [beq_eq_false_iff_ne]; exact he
          go_wp2_with fail
          refine (err_is p A c xs s2 w6 _ HRD6.out).mono ?_
          rintro e w7 ⟨rfl, rfl⟩
          go_wp2_with fail
          refine (left_is p A c xs s2 w6 _ HRD6.out).mono ?_
          rintro e w7 ⟨rfl, nn, rfl⟩
          rw [show rleft xs s2 = 0 by unfold rleft; rw [if_neg he]]
          have HRDQ := Lib.hid (Ext.keep (loc_rd _ _ _ _ _) (ext_drewN w6 nn) HRD6.out)
          have STQ := Lib.hid ((ST6.out.trans (show Step S6 S6 w6 (w6.drewN nn) from ⟨Keep.of_below (ext_drewN w6 nn), fun _ h => .inl h⟩)).less HRDS.out)
          by_cases hs0 : s.err = 0
          · have hz1 : (s.err == 0) = true := by simpa using hs0
            have hz2 : (s.err != 0) = false := by simpa using hs0
            go_wp2_with fail
            exact ⟨⟨j + 1, s2, _, by omega, by go_num, HRDQ.out, STQ.out⟩, by simp [intOf]; omega⟩
          · have hz1 : (s.err == 0) = false := by rw [beq_eq_false_iff_ne]; exact hs0
            have hz2 : (s.err != 0) = true := by simpa using hs0
            go_wp2_with fail
            refine (err_is p A c xs s2 _ _ HRDQ.out).mono ?_
            rintro e w7 ⟨rfl, rfl⟩
            rw [hse.2 hs0]
            go_wp2_with fail
            exact ⟨⟨j + 1, s2, _, by omega, by go_num, HRDQ.out, STQ.out⟩, by simp [intOf]; omega⟩
      · have ht5 : Int.tmod (K : Int) 5 = 4 := by rw [Int.tmod_eq_emod_of_nonneg (by omega)]; omega
        clear h5
        go_wp2_with fail
        refine (bytes_b (loc_wr q []) n9 (by omega) HN1.out HRN.out HPN.out).mono ?_
        rintro e w5 ⟨S5, A5, ⟨rfl, hh5, hr5⟩, st5⟩
        have hbl := rbytes_len (xs := xs) (s := s) hn9b.2
        have HT1 := Lib.hid (took_bytes (xs := xs) s n9 (sm := false) (fun _ => rfl) hn9b.2)
        have HT2 := Lib.hid (fun h => rbytes_none (xs := xs) (s := s) (n := n9) h)
        generalize (rbytes xs s n9).1 = E at *
        generalize (rbytes xs s n9).2 = s2 at *
        have H5 := Lib.hid hh5
        have ST5 := Lib.hid (STN.out.trans st5)
        have HR5 := Lib.hid hr5
        clear hh5 st5 hr5
        go_wp2_with fail
        refine (Calls.sep (loc_rd p A c xs s2) H5.out (fun S1 a => put_c q [] A5 E.length E w5 S1 a HR5.out (by simp; omega))).mono ?_
        rintro e w6 ⟨S6, hh6, st6⟩
        obtain ⟨rfl, hh7⟩ := Sep.fact hh6
        rw [List.nil_append] at hh7
        have H6 := Lib.hid hh7
        have ST6 := Lib.hid (ST5.out.trans st6)
        have hEl : E.length ≤ 10 := by omega
        clear hh6 hh7 st6 H5 ST5
        have HRD6 := Lib.hid (Sep.left H6.out.comm).choose_spec.1
        have HWR6 := Lib.hid (Sep.left H6.out).choose_spec.1
        have HRX := Lib.hid ((Ext.trans _ _ _ X1.out (show Ext w1 w6 from ST6.out.keep.below (Nat.le_refl _) (fun _ _ x => x))).reads HA.out)
        have HRDS := Lib.hid (Sep.left H6.out.comm).choose_spec.2
        have h2f := HRD6.out.1
        by_cases he : s2.err = 0
        · obtain ⟨hs0, hle2, hE⟩ := HT1.out.1 he
          clear hbl
          have HEH := Lib.hid hE
          clear hE
          go_wp2_with fail
          refine (err_is p A c xs s2 w6 _ HRD6.out).mono ?_
          rintro e w7 ⟨rfl, rfl⟩
          rw [he]
          go_wp2_with fail
          refine wp_region_rely (by kernel_rfl) Ext Ext.refl Ext.trans [[(14, none)], [(102, some 0)], [(103, some 1)], [(0, none)], [(12, none)], [(9, none)], [(107, some 5)], [(105, some 3), (106, some 4), (108, some 6)], [(109, some 7)], [(104, some 2), (110, some 8)]] [some 102, some 103, some 104, some 105, some 106, some 107, some 108, some 109, some 110, some 111] (by kernel_rfl) (by kernel_rfl) ?_
          apply rely_const; case h => (intro wq hR a h14 K hK; go_wp2_with fail; exact Ext.refl _)
          refine rely_rel (fun v wq => ∃ A1 c1, v = .slice A1 E.length c1 ∧ Reads wq .u8 A1 E) (fun v w w' ⟨A1, c1, e, k⟩ x => ⟨A1, c1, e, x.reads k⟩) ?_ ?_
          · intro wq hR a h102 K hK
            have HK := Lib.hid hK
            clear hK
            go_wp2_with fail
            refine (wbytes_c q E (by omega) wq _ (Ext.keep (loc_wr _ _) hR.undrew HWR6.out)).mono ?_
            rintro e w8 ⟨A1, c1, rfl, hrd, hx8, _⟩
            have HX8 := Lib.hid hx8
            have HRD8 := Lib.hid hrd
            clear hx8 hrd
            go_wp2_with fail
            exact HK.out _ _ HX8.out ⟨A1, c1, rfl, HRD8.out⟩
          apply rely_const; case h => (
            rintro wq hR a v h103 ⟨A1, c1, rfl, hrd⟩ K hK
            have hcv : (convert 26 9 (.slice A1 E.length c1)).run Try.prog wq = .ok (.string (strOfNums E)) wq := hrd.string (P := Try.prog) Try.underlying26 Try.underlying5 Try.underlying9 c1
            clear hrd
            go_wp2_with fail
            exact Ext.refl _)
          apply rely_const; case h => (intro wq hR a h0 K hK; go_wp2_with fail; exact Ext.refl _)
          apply rely_const; case h => (intro wq hR a h12 K hK; go_wp2_with fail; exact Ext.refl _)
          apply rely_const; case h => (intro wq hR a h9 K hK; go_wp2_with fail; exact Ext.refl _)
          apply rely_const
          case h =>
            intro wq hR a h107 K hK
            go_wp2_with fail
            refine (at_is p A c xs s2 wq _ (Ext.keep (loc_rd _ _ _ _ _) hR.undrew HRD6.out)).mono ?_
            rintro e w8 ⟨rfl, rfl⟩
            go_wp2_with fail
            exact Ext.refl _
          refine rely_rel (fun v wq => ∃ A1 c1, v = .slice A1 E.length c1 ∧ Reads wq .u8 A1 E) (fun v w w' ⟨A1, c1, e, k⟩ x => ⟨A1, c1, e, x.reads k⟩) ?_ ?_
          · intro wq hR a h105 h106 h108 K hK
            have HK := Lib.hid hK
            have HRQ := Lib.hid (hR.undrew.reads HRX.out)
            clear hK
            have HEL := Lib.hid (show E.length = s2.at_ - s.at_ by rw [HEH.out, List.length_take, List.length_drop]; omega)
            by_cases hz : s2.at_ = s.at_
            · have hEz : E = [] := List.eq_nil_of_length_eq_zero (by have := HEL.out; omega)
              rw [hz] at h108
              have hsc : s.at_ ≤ c := by omega
              clear HEL HEH
              subst hEz
              cases A with
              | none =>
                go_wp2_with fail
                exact HK.out _ _ (Ext.refl _) ⟨_, _, rfl, fun i hi => absurd hi (Nat.not_lt_zero i)⟩
              | some ad =>
                go_wp2_with fail
                all_goals exact HK.out _ _ (Ext.refl _) ⟨_, _, rfl, fun i hi => absurd hi (Nat.not_lt_zero i)⟩
            · obtain ⟨ab, ao, rfl, _, _⟩ := HRQ.out s.at_ (by omega)
              have hsc : s2.at_ ≤ c := by omega
              have hsl : s.at_ ≤ s2.at_ := hle2
              have hscc : ¬ s.at_ = c := by omega
              have hrp := reads_part HRQ.out s.at_ (s2.at_ - s.at_)
              rw [← HEH.out] at hrp
              have HRP := Lib.hid hrp
              clear hrp
              go_wp2_with fail
              rw [← HEL.out]
              exact HK.out _ _ (Ext.refl _) ⟨_, _, rfl, HRP.out⟩
          apply rely_const; case h => (
            rintro wq hR a v h109 ⟨A1, c1, rfl, hrd⟩ K hK
            have hcv : (convert 26 9 (.slice A1 E.length c1)).run Try.prog wq = .ok (.string (strOfNums E)) wq := hrd.string (P := Try.prog) Try.underlying26 Try.underlying5 Try.underlying9 c1
            clear hrd
            go_wp2_with fail
            exact Ext.refl _)
          apply rely_const; case h => (intro wq hR a h104 h110 K hK; have hse := str_eq (rfl : E = E); go_wp2_with fail; exact Ext.refl _)
          refine rely_end ?_
          intro wq hR
          simp only [ends, Act.put, List.setIfInBounds_toArray, List.set_cons_zero, List.set_cons_succ]
          intro v1 _ v2 _
          have XQ := Lib.hid hR.undrew
          clear hR
          have HRDQ := Lib.hid (Ext.keep (loc_rd _ _ _ _ _) XQ.out HRD6.out)
          have STQ := Lib.hid ((ST6.out.trans (show Step S6 S6 w6 wq from ⟨Keep.of_below XQ.out, fun _ h => .inl h⟩)).less HRDS.out)
          go_wp2_with fail
          exact ⟨⟨j + 1, s2, _, by omega, by go_num, HRDQ.out, STQ.out⟩, by simp [intOf]; omega⟩
        · have hN0 := HT2.out he
          subst hN0
          have hse := HT1.out.2 he
          have hne : (s2.err == 0) = false := by rw [beq_eq_false_iff_ne]; exact he
          go_wp2_with fail
          refine (err_is p A c xs s2 w6 _ HRD6.out).mono ?_
          rintro e w7 ⟨rfl, rfl⟩
          go_wp2_with fail
          refine (left_is p A c xs s2 w6 _ HRD6.out).mono ?_
          rintro e w7 ⟨rfl, nn, rfl⟩
          rw [show rleft xs s2 = 0 by unfold rleft; rw [if_neg he]]
          have HRDQ := Lib.hid (Ext.keep (loc_rd _ _ _ _ _) (ext_drewN w6 nn) HRD6.out)
          have STQ := Lib.hid ((ST6.out.trans (show Step S6 S6 w6 (w6.drewN nn) from ⟨Keep.of_below (ext_drewN w6 nn), fun _ h => .inl h⟩)).less HRDS.out)
          by_cases hs0 : s.err = 0
          · have hz1 : (s.err == 0) = true := by simpa using hs0
            have hz2 : (s.err != 0) = false := by simpa using hs0
            go_wp2_with fail
            exact ⟨⟨j + 1, s2, _, by omega, by go_num, HRDQ.out, STQ.out⟩, by simp [intOf]; omega⟩
          · have hz1 : (s.err == 0) = false := by rw [beq_eq_false_iff_ne]; exact hs0
            have hz2 : (s.err != 0) = true := by simpa using hs0
            go_wp2_with fail
            refine (err_is p A c xs s2 _ _ HRDQ.out).mono ?_
            rintro e w7 ⟨rfl, rfl⟩
            rw [hse.2 hs0]
            go_wp2_with fail
            exact ⟨⟨j + 1, s2, _, by omega, by go_num, HRDQ.out, STQ.out⟩, by simp [intOf]; omega⟩
    · obtain rfl : j = ks.length := by omega
      have XR := Lib.hid (Ext.trans _ _ _ X1.out (show Ext w1 wr from ST.out.keep.below (Nat.le_refl _) (fun _ _ x => x)))
      go_wp2_with fail
      refine (err_is p A c xs s wr _ HM.out).mono ?_
      rintro e w3 ⟨rfl, rfl⟩
      by_cases he : s.err = 0
      · have hz : (s.err == 0) = true := by simpa using he
        go_wp2_with fail
        refine (at_is p A c xs s wr _ HM.out).mono ?_
        rintro e w3 ⟨rfl, rfl⟩
        by_cases hl : s.at_ < xs.length
        · have hd : decide (s.at_ < xs.length) = true := by simpa using hl
          have hen : rend xs s = 15 := by unfold rend; rw [if_pos ⟨he, hl⟩]
          go_wp2_with fail
          refine (end_is p A c xs s wr _ HM.out).mono ?_
          rintro e w4 ⟨rfl, nn, rfl⟩
          rw [hen]
          go_wp2_with fail
          go_ret
          exact ⟨rfl, Ext.trans _ _ _ XR.out (ext_drewN wr nn)⟩
        · have hd : decide (s.at_ < xs.length) = false := by simpa using hl
          have hen : rend xs s = s.err := by unfold rend; rw [if_neg (fun q => hl q.2)]
          go_wp2_with fail
          refine (end_is p A c xs s wr _ HM.out).mono ?_
          rintro e w4 ⟨rfl, nn, rfl⟩
          rw [hen]
          go_wp2_with fail
          go_ret
          exact ⟨rfl, Ext.trans _ _ _ XR.out (ext_drewN wr nn)⟩
      · have hz : (s.err == 0) = false := by rw [beq_eq_false_iff_ne]; exact he
        have hen : rend xs s = s.err := by unfold rend; rw [if_neg (fun q => he q.1)]
        go_wp2_with fail
        refine (end_is p A c xs s wr _ HM.out).mono ?_
        rintro e w4 ⟨rfl, nn, rfl⟩
        rw [hen]
        go_wp2_with fail
        go_ret
        exact ⟨rfl, Ext.trans _ _ _ XR.out (ext_drewN wr nn)⟩
end Go.Proofs.Ytpgnlpcnancplaa.Wire
