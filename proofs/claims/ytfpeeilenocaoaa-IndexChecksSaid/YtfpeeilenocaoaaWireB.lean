/- The reader's calls beside other memory; what is taken. -/
import Derived.Test.YtfpeeilenocaoaaWireRef
namespace Go.Proofs.Ytfpeeilenocaoaa.Wire
open Go.RowKit Go.Proofs.Ytfpeeilenocaoaa.Own Go.Proofs.Ytfpeeilenocaoaa.Rely
attribute [local go_sem] max_ints min_ints

/-- What was taken from the place s to the place t has the bytes E; if nothing could be, nothing came. -/
def Took (xs : List Int) (s t : RS) (E : List Int) (sm : Bool) : Prop :=
  (t.err = 0 → s.err = 0 ∧ s.at_ ≤ t.at_ ∧ E = (xs.drop s.at_).take (t.at_ - s.at_)) ∧ (t.err ≠ 0 → sm = false ∧ (s.err ≠ 0 → t.err = s.err))
theorem rfail_same {s : RS} {e : Int} (h : s.err ≠ 0) : rfail s e = s := by unfold rfail; rw [if_neg h]
theorem uloop_stop {xs : List Int} {s : RS} (h : s.err ≠ 0) : uloop xs 9 0 s = (none, s) := by
  have hb : rbyte xs s = (0, s) := by unfold rbyte; rw [if_neg (fun q => h q.1), rfail_same h]
  have ho : uone xs 0 s = (0, s) := by unfold uone; rw [hb]; rfl
  unfold uloop
  rw [show 8 - 8 = 0 from rfl, ho, if_pos h]
theorem uloop_ok (xs : List Int) : ∀ (f n : Nat) (s : RS) (m : Nat) (s' : RS), uloop xs f n s = (some m, s') → s'.err = 0
  | 0, n, s, m, s', h => by
    unfold uloop at h
    split at h
    · cases h
    · rename_i hq
      cases h
      exact Decidable.not_not.1 hq
  | f + 1, n, s, m, s', h => by
    unfold uloop at h
    split at h
    · cases h
    · rename_i hq
      split at h
      · cases h
        exact Decidable.not_not.1 hq
      · exact uloop_ok xs f _ _ m s' h
theorem rnum_le (xs : List Int) (most : Nat) (s : RS) : (rnum xs most s).1 ≤ most := by
  unfold rnum
  split
  · exact Nat.zero_le _
  · split
    · exact Nat.zero_le _
    · exact Nat.le_of_not_lt (by assumption)
theorem rnum_none {xs : List Int} {most : Nat} {s : RS} (h : (rnum xs most s).2.err ≠ 0) : (rnum xs most s).1 = 0 ∧ (s.err ≠ 0 → (rnum xs most s).2.err = s.err) := by
  refine ⟨?_, fun hs => ?_⟩
  · unfold rnum at h ⊢
    split
    · rfl
    · rename_i n s' he
      split
      · rfl
      · rename_i hq
        exfalso
        rw [he] at h
        simp only [if_neg hq] at h
        exact h (uloop_ok xs _ _ _ _ _ he)
  · unfold rnum
    rw [uloop_stop hs]
theorem took_num {xs : List Int} (hx : IsBytes xs) (most : Nat) (s : RS) {sm : Bool} (hsm : (rnum xs most s).1 = 0 → sm = false) : Took xs s (rnum xs most s).2 (enc (rnum xs most s).1) sm := by
  refine ⟨fun h => ?_, fun h => ?_⟩
  · obtain ⟨h1, _, h3, h4, h5⟩ := rnum_back hx h
    rw [h3]
    refine ⟨h1, by simp, ?_⟩
    rw [h5]
    simp
  · obtain ⟨h1, h2⟩ := rnum_none h
    exact ⟨hsm h1, h2⟩
theorem took_byte {xs : List Int} (s : RS) {sm : Bool} (hsm : (rbyte xs s).1 = 0 → sm = false) : Took xs s (rbyte xs s).2 [(rbyte xs s).1] sm := by
  unfold rbyte at *
  split
  · rename_i hq
    rw [if_pos hq] at hsm
    refine ⟨fun _ => ⟨hq.1, by simp, ?_⟩, fun h => absurd hq.1 h⟩
    show [xs.getD s.at_ 0] = (xs.drop s.at_).take (s.at_ + 1 - s.at_)
    rw [show s.at_ + 1 - s.at_ = 1 by omega, List.drop_eq_getElem_cons hq.2, List.take_succ_cons, List.take_zero, List.getD_eq_getElem?_getD, List.getElem?_eq_getElem hq.2]
    rfl
  · rename_i hq
    rw [if_neg hq] at hsm
    refine ⟨fun h => ?_, fun _ => ⟨hsm rfl, fun hs => by rw [rfail_same hs]⟩⟩
    exfalso
    revert h
    simp only
    unfold rfail
    split
    · simp
    · assumption
theorem word4_le4 {a b c d : Int} (ha : 0 ≤ a ∧ a ≤ 255) (hb : 0 ≤ b ∧ b ≤ 255) (hc : 0 ≤ c ∧ c ≤ 255) (hd : 0 ≤ d ∧ d ≤ 255) : word4 (Bit.le4 a b c d) = [a, b, c, d] ∧ Bit.le4 a b c d ≤ 4294967295 := by
  unfold word4 Bit.le4
  simp only [List.cons.injEq, and_true]
  omega
theorem rfail_err {s : RS} {e : Int} (he : e ≠ 0) : (rfail s e).err ≠ 0 := rfail_ne s he
theorem rword_le {xs : List Int} (hx : IsBytes xs) (s : RS) : (rword xs s).1 ≤ 4294967295 := by
  unfold rword
  split
  · simp
  · rename_i hq
    have hl : s.at_ + 4 ≤ xs.length := by unfold rleft at hq; split at hq <;> omega
    have hb : ∀ i, i < xs.length → 0 ≤ xs.getD i 0 ∧ xs.getD i 0 ≤ 255 := fun i hi => hx _ (by rw [List.getD_eq_getElem?_getD, List.getElem?_eq_getElem hi]; exact List.getElem_mem hi)
    exact (word4_le4 (hb _ (by omega)) (hb _ (by omega)) (hb _ (by omega)) (hb _ (by omega))).2
theorem took_word {xs : List Int} (hx : IsBytes xs) (s : RS) {sm : Bool} (hsm : (rword xs s).1 = 0 → sm = false) : Took xs s (rword xs s).2 (word4 (rword xs s).1) sm := by
  unfold rword at *
  split
  · rename_i hq
    rw [if_pos hq] at hsm
    exact ⟨fun h => absurd h (rfail_err (by decide)), fun _ => ⟨hsm rfl, fun hs => by rw [rfail_same hs]⟩⟩
  · rename_i hq
    rw [if_neg hq] at hsm
    have h0 : s.err = 0 := by
      unfold rleft at hq
      split at hq
      · assumption
      · omega
    have hl : s.at_ + 4 ≤ xs.length := by unfold rleft at hq; split at hq <;> omega
    have hb : ∀ i, i < xs.length → 0 ≤ xs.getD i 0 ∧ xs.getD i 0 ≤ 255 := fun i hi => hx _ (by rw [List.getD_eq_getElem?_getD, List.getElem?_eq_getElem hi]; exact List.getElem_mem hi)
    refine ⟨fun _ => ⟨h0, by simp, ?_⟩, fun h => absurd h0 h⟩
    simp only
    rw [(word4_le4 (hb _ (by omega)) (hb _ (by omega)) (hb _ (by omega)) (hb _ (by omega))).1, show s.at_ + 4 - s.at_ = 4 by omega]
    apply List.ext_getElem
    · simp; omega
    · intro i h1 h2
      have h1' : i < 4 := by simpa using h1
      rw [List.getElem_take, List.getElem_drop]
      match i, h1' with
      | 0, _ => simp [List.getD_eq_getElem?_getD, List.getElem?_eq_getElem (show s.at_ < xs.length by omega)]
      | 1, _ => simp [List.getD_eq_getElem?_getD, List.getElem?_eq_getElem (show s.at_ + 1 < xs.length by omega)]
      | 2, _ => simp [List.getD_eq_getElem?_getD, List.getElem?_eq_getElem (show s.at_ + 2 < xs.length by omega)]
      | 3, _ => simp [List.getD_eq_getElem?_getD, List.getElem?_eq_getElem (show s.at_ + 3 < xs.length by omega)]
theorem took_bytes {xs : List Int} (s : RS) (n : Int) {sm : Bool} (hsm : (rbytes xs s n).1 = [] → sm = false) (hn : n ≤ 8) : Took xs s (rbytes xs s n).2 (rbytes xs s n).1 sm := by
  unfold rbytes at *
  split
  · rename_i hq
    rw [if_pos hq] at hsm
    exact ⟨fun h => absurd h (rfail_err (by decide)), fun _ => ⟨hsm rfl, fun hs => by rw [rfail_same hs]⟩⟩
  · rename_i hq
    rw [if_neg hq] at hsm
    refine ⟨fun h => ⟨h, by simp, by simp⟩, fun h => ?_⟩
    have h' : s.err ≠ 0 := h
    have h0 : rleft xs s = 0 := by unfold rleft; rw [if_neg h']
    have hn0 : n = 0 := by omega
    subst hn0
    exact ⟨hsm (by simp), fun _ => rfl⟩
theorem zag_range {u : Nat} (h : U64 u) : -9223372036854775808 ≤ Bit.zag u ∧ Bit.zag u ≤ 9223372036854775807 := by
  have := h.lt
  unfold Bit.zag
  split <;> omega
theorem rbyte_none {xs : List Int} {s : RS} (h : (rbyte xs s).2.err ≠ 0) : (rbyte xs s).1 = 0 := by
  unfold rbyte at *
  split
  · rename_i hq
    rw [if_pos hq] at h
    exact absurd hq.1 h
  · rfl
theorem rword_none {xs : List Int} {s : RS} (h : (rword xs s).2.err ≠ 0) : (rword xs s).1 = 0 := by
  unfold rword at *
  split
  · rfl
  · rename_i hq
    rw [if_neg hq] at h
    have h' : s.err ≠ 0 := h
    unfold rleft at hq
    rw [if_neg h'] at hq
    omega
theorem rbytes_none {xs : List Int} {s : RS} {n : Int} (h : (rbytes xs s n).2.err ≠ 0) : (rbytes xs s n).1 = [] := by
  unfold rbytes at *
  split
  · rfl
  · rename_i hq
    rw [if_neg hq] at h
    have h' : s.err ≠ 0 := h
    have h0 : rleft xs s = 0 := by unfold rleft; rw [if_neg h']
    have hn0 : n.toNat = 0 := by omega
    show (xs.drop s.at_).take n.toNat = []
    rw [hn0, List.take_zero]
theorem rbytes_len {xs : List Int} {s : RS} {n : Int} (h : n ≤ 8) : (rbytes xs s n).1.length ≤ 8 := by
  unfold rbytes
  split
  · simp
  · simp; omega
theorem tmod9 (n : Int) : -8 ≤ Int.tmod n 9 ∧ Int.tmod n 9 ≤ 8 := by
  rcases Int.lt_or_le n 0 with h | h
  · have : Int.tmod n 9 = -((-n) % 9) := by
      rw [← Int.tmod_eq_emod_of_nonneg (by omega), Int.neg_tmod, Int.neg_neg]
    omega
  · rw [Int.tmod_eq_emod_of_nonneg h]; omega
/-- What the bytes are, whatever the reader does. -/
theorem rd_reads {p : Nat} {A : Option Addr} {c : Nat} {xs : List Int} {s : RS} {w : World} {S1 : Nat → Prop} (h : Rd p A c xs s w S1) (hr : Reads w .u8 A xs) (hne : ∀ a, A = some a → xs.length ≠ 0 → a.block ≠ p) : ∀ w', Keep S1 w w' → Reads w' .u8 A xs :=
  fun w' hk => by
    by_cases h0 : xs.length = 0
    · intro i hi; omega
    · exact hr.keep hk (fun a e hs => hne a e h0 ((h.2.2 a.block).1 hs))
theorem num_b {p : Nat} {A : Option Addr} {c : Nat} {xs : List Int} {s : RS} {B : Asn} (hB : Lcl B) (most : Nat) (hx : IsBytes xs) {w : World} {S : Nat → Prop} (h : Sep (Rd p A c xs s) B w S) (hr : Reads w .u8 A xs) (hne : ∀ a, A = some a → xs.length ≠ 0 → a.block ≠ p) :
    Calls Try.prog 43 #[.pointer (some ⟨p, 0, none⟩), .int .u64 most] w fun e w' => ∃ S', (e = .returned (.int .u64 (rnum xs most s).1) ∧ Sep B (Rd p A c xs (rnum xs most s).2) w' S') ∧ Step S S' w w' := by
  refine (Calls.sep hB h (fun S1 a => uint_calls p A c xs s most w S1 hx a (rd_reads a hr hne))).mono ?_
  rintro e w' ⟨S', h', st⟩
  obtain ⟨q, h'⟩ := Sep.fact h'
  exact ⟨S', ⟨q, h'.comm⟩, st⟩
theorem byte_b {p : Nat} {A : Option Addr} {c : Nat} {xs : List Int} {s : RS} {B : Asn} (hB : Lcl B) {w : World} {S : Nat → Prop} (h : Sep (Rd p A c xs s) B w S) (hr : Reads w .u8 A xs) :
    Calls Try.prog 36 #[.pointer (some ⟨p, 0, none⟩)] w fun e w' => ∃ S', (e = .returned (.int .u8 (rbyte xs s).1) ∧ Sep B (Rd p A c xs (rbyte xs s).2) w' S') ∧ Step S S' w w' := by
  refine (Calls.sep hB h (fun S1 a => byte_calls p A c xs s w S1 a hr)).mono ?_
  rintro e w' ⟨S', h', st⟩
  obtain ⟨q, h'⟩ := Sep.fact h'
  exact ⟨S', ⟨q, h'.comm⟩, st⟩
theorem word_b {p : Nat} {A : Option Addr} {c : Nat} {xs : List Int} {s : RS} {B : Asn} (hB : Lcl B) (hx : IsBytes xs) {w : World} {S : Nat → Prop} (h : Sep (Rd p A c xs s) B w S) (hr : Reads w .u8 A xs) (hne : ∀ a, A = some a → xs.length ≠ 0 → a.block ≠ p) :
    Calls Try.prog 37 #[.pointer (some ⟨p, 0, none⟩)] w fun e w' => ∃ S', (e = .returned (.int .u32 (rword xs s).1) ∧ Sep B (Rd p A c xs (rword xs s).2) w' S') ∧ Step S S' w w' := by
  refine (Calls.sep hB h (fun S1 a => word_calls p A c xs s w S1 hx a (rd_reads a hr hne))).mono ?_
  rintro e w' ⟨S', h', st⟩
  obtain ⟨q, h'⟩ := Sep.fact h'
  exact ⟨S', ⟨q, h'.comm⟩, st⟩
theorem bytes_b {p : Nat} {A : Option Addr} {c : Nat} {xs : List Int} {s : RS} {B : Asn} (hB : Lcl B) (n : Int) (n1 : n ≤ 9223372036854775807) {w : World} {S : Nat → Prop} (h : Sep (Rd p A c xs s) B w S) (hr : Reads w .u8 A xs) (hne : ∀ a, A = some a → xs.length ≠ 0 → a.block ≠ p) :
    Calls Try.prog 35 #[.pointer (some ⟨p, 0, none⟩), .int .i64 n] w fun e w' => ∃ S' A', (e = .returned (.slice A' (rbytes xs s n).1.length (rbytes xs s n).1.length) ∧ Sep B (Rd p A c xs (rbytes xs s n).2) w' S' ∧ Reads w' .u8 A' (rbytes xs s n).1) ∧ Step S S' w w' := by
  obtain ⟨S1, S2, a, b, d, e⟩ := h
  have hS : S = fun k => S1 k ∨ S2 k := funext fun k => propext (e k)
  refine (bytes_calls p A c xs s n w S1 a hr n1).mono ?_
  rintro e' w' ⟨S', A', ⟨q, h'⟩, st, hrd, _⟩
  have hk := rd_reads a hr hne w' st.keep
  have := Sep.step hB (A' := Rd p A c xs (rbytes xs s n).2) b d h' st
  rw [hS]
  exact ⟨_, A', ⟨q, this.1.comm, hrd _ hk⟩, this.2⟩
theorem reads_part {w : World} {b o : Nat} {xs : List Int} (h : Reads w .u8 (some ⟨b, o, none⟩) xs) (i n : Nat) : Reads w .u8 (some ⟨b, o + i, none⟩) ((xs.drop i).take n) := by
  intro j hj
  rw [List.length_take, List.length_drop] at hj
  obtain ⟨b', o', e, hl, hc⟩ := h (i + j) (by omega)
  cases e
  refine ⟨b, o + i, rfl, hl, ?_⟩
  rw [show o + i + j = o + (i + j) by omega, hc]
  simp [List.getD_eq_getElem?_getD, List.getElem?_take, List.getElem?_drop, show j < n by omega]
end Go.Proofs.Ytfpeeilenocaoaa.Wire
