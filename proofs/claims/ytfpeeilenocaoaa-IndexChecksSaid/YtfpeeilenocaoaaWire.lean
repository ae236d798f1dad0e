/- The wire's writer: what each call leaves. -/
import Derived.Test.YtfpeeilenocaoaaProg
import Derived.Test.YtfpeeilenocaoaaOwnB
import Derived.Test.YtfpeeilenocaoaaBit
import Derived.LoopTactic
import Derived.Outline
namespace Go.Proofs.Ytfpeeilenocaoaa.Wire
open Go.RowKit Go.Proofs.Ytfpeeilenocaoaa.Own

/-- A writer at block p, its bytes so far. -/
def Wr (p : Nat) (l : List Int) : Asn := Some fun v => Sep (Row 5 .u8 v l) (Blk p #[v] 70)
theorem loc_wr (p : Nat) (l : List Int) : Lcl (Wr p l) := Lcl.some fun v => (Lcl.row _ _ _ _).sep (Lcl.blk _ _ _)
theorem info_u8 : (Try.prog.info? 5).map (fun i => (i.zero, i.size, i.bytes)) = some (some (.int .u8 0), 1, 1) := by kernel_rfl

theorem store_wr {p : Nat} {v v' : Value} {l : List Int} {w : World} {S : Nat → Prop} (h : Sep (Row 5 .u8 v' l) (Blk p #[v] 70) w S) : Wr p l (w.setCell ⟨p, 0, none⟩ v') S ∧ Step S S w (w.setCell ⟨p, 0, none⟩ v') := by
  obtain ⟨S1, S2, h1, h2, d, q⟩ := h
  have hs := Blk.set h2 0 v'
  have hS : S = fun k => S2 k ∨ S1 k := funext fun k => propext ((q k).trans Or.comm)
  have := Sep.step (A' := Blk p #[v'] 70) (Lcl.row _ _ _ _) h1 (fun k x y => d k y x) hs.1 hs.2
  rw [hS]
  exact ⟨⟨v', this.1.comm⟩, this.2⟩

set_option maxHeartbeats 1000000 in
theorem byte_tri (p : Nat) (l : List Int) (c : Int) (hl : l.length < 140737488355328) :
    Tri Try.prog 29 #[.pointer (some ⟨p, 0, none⟩), .int .u8 c] (Wr p l) (fun e => Fact (e = .returned (.tuple #[])) (Wr p (l ++ [c]))) := by
  rintro w S ⟨v, h⟩
  obtain ⟨T, hT, _⟩ := h.comm.left
  have c0 : w.cell? ⟨p, 0, none⟩ = some v := hT.cell 0
  have f0 := hT.free 0
  have H := Lib.hid h
  clear h hT
  go_enter Try.func29, Try.ntmps29
  go_wp2_with (at_builtin; refine append_lit _ 5 rfl _ _ 22 rfl .u8 1 Try.underlying22 info_u8 (by decide) _ l [c] 1 1 rfl rfl rfl rfl (Lcl.blk _ _ _) H.out (by simp; omega) ?_; intro A' c' w' S' h' st'; obtain ⟨T', hT', _⟩ := h'.comm.left; have c1 : w'.cell? ⟨p, 0, none⟩ = some v := hT'.cell 0; have f1 := hT'.free 0; have H' := Lib.hid h'; have ST' := Lib.hid st'; clear h' st' hT')
  go_end0
  exact ⟨S', ⟨rfl, (store_wr H'.out).1⟩, ST'.out.trans (store_wr H'.out).2⟩

set_option maxHeartbeats 1000000 in
theorem put_tri (p : Nat) (l : List Int) (A : Option Addr) (c : Nat) (b : List Int) (B : Asn) (hB : Lcl B) (hr : ∀ w S, B w S → Reads w .u8 A b) (hl : l.length + b.length ≤ 140737488355328) :
    Tri Try.prog 30 #[.pointer (some ⟨p, 0, none⟩), .slice A b.length c] (Sep (Wr p l) B) (fun e => Fact (e = .returned (.tuple #[])) (Sep (Wr p (l ++ b)) B)) := by
  intro w S h
  obtain ⟨v, h⟩ := Sep.some h
  have h := h.assoc
  obtain ⟨T, hT, _⟩ := h.comm.assoc.left
  have c0 : w.cell? ⟨p, 0, none⟩ = some v := hT.cell 0
  have f0 := hT.free 0
  have R : Reads w .u8 A b := by obtain ⟨T2, h2, _⟩ := (h.comm.assoc).second.left; exact hr _ _ h2
  have HR := Lib.hid R
  have H := Lib.hid h
  clear h hT R
  go_enter Try.func30, Try.ntmps30
  go_wp2_with (at_builtin; go_loud (refine append_row _ rfl _ _ 22 rfl 5 .u8 1 Try.underlying22 info_u8 (by decide) _ l b A b.length c rfl rfl rfl ((Lcl.blk _ _ _).sep hB) H.out HR.out (by omega) ?_); intro A' c' w' S' h' st'; obtain ⟨T', hT', _⟩ := h'.comm.assoc.left; have c1 : w'.cell? ⟨p, 0, none⟩ = some v := hT'.cell 0; have f1 := hT'.free 0; have H' := Lib.hid h'; have ST' := Lib.hid st'; clear h' st' hT')
  go_end0
  obtain ⟨S1, S2, h1, h2, d, q⟩ := H'.out.assoc'
  have hS := Sep.step hB (A' := Wr p (l ++ b)) h2 d (store_wr h1).1 (store_wr h1).2
  have hq : S' = fun k => S1 k ∨ S2 k := funext fun k => propext (q k)
  rw [hq] at ST'
  exact ⟨_, ⟨rfl, hS.1⟩, ST'.out.trans hS.2⟩

/-- A number's bytes. -/
def enc (n : Nat) : List Int := if h : n < 128 then [(n : Int)] else ((n % 128 + 128 : Nat) : Int) :: enc (n / 128)
termination_by n
decreasing_by omega
theorem enc_small {n : Nat} (h : n < 128) : enc n = [(n : Int)] := by rw [enc, dif_pos h]
theorem enc_big {n : Nat} (h : ¬ n < 128) : enc n = ((n % 128 + 128 : Nat) : Int) :: enc (n / 128) := by rw [enc, dif_neg h]
/-- How many bytes a number of so many sevens of bits has at most. -/
theorem enc_len : ∀ (k n : Nat), n < 128 ^ k → 0 < k → (enc n).length ≤ k := by
  intro k
  induction k with
  | zero => intro n _ h; omega
  | succ k ih =>
    intro n hn _
    by_cases h : n < 128
    · rw [enc_small h]; simp
    · rw [enc_big h]
      have hk : 0 < k := by
        rcases Nat.eq_zero_or_pos k with rfl | hk
        · simp at hn; omega
        · exact hk
      have := ih (n / 128) (by rw [Nat.div_lt_iff_lt_mul (by omega)]; rw [Nat.pow_succ] at hn; exact hn) hk
      simp only [List.length_cons]; omega
theorem enc_ten {n : Nat} (h : U64 n) : (enc n).length ≤ 10 := enc_len 10 n (Nat.lt_of_lt_of_le h.lt (by decide)) (by omega)
theorem enc_pos (n : Nat) : 0 < (enc n).length := by
  by_cases h : n < 128
  · rw [enc_small h]; simp
  · rw [enc_big h]; simp

/-- The bytes so far, and those to come. -/
def UintRel (p : Nat) (l : List Int) (n : Nat) (S : Nat → Prop) (w : World) (m : Nat) (wr : World) : Prop :=
  ∃ l' S', U64 m ∧ l' ++ enc m = l ++ enc n ∧ Wr p l' wr S' ∧ Step S S' w wr

set_option maxRecDepth 20000 in
set_option maxHeartbeats 400000 in
theorem uint_tri (p : Nat) (l : List Int) (n : Nat) (hl : l.length + 10 ≤ 140737488355328) (hn : U64 n) :
    Tri Try.prog 42 #[.pointer (some ⟨p, 0, none⟩), .int .u64 n] (Wr p l) (fun e => Fact (e = .returned (.tuple #[])) (Wr p (l ++ enc n))) := by
  intro w S h
  have H := Lib.hid h
  have HN := Lib.hid hn
  have HL := Lib.hid hl
  clear h hn hl
  go_enter Try.func42, Try.ntmps42
  go_wp2_with fail
  go_loopw [1] (fun v wr => ∃ (m : Nat), v = .int .u64 m ∧ UintRel p l n S w m wr) (fun i _ => (intOf i).toNat)
  case atStart => exact ⟨n, rfl, l, S, HN.out, rfl, H.out, Step.refl _ _⟩
  case round =>
    obtain ⟨m, rfl, l', S', hm, hq, h', st'⟩ := hrel
    have hlen : l'.length < 140737488355328 := by
      have h1 := congrArg List.length hq
      simp only [List.length_append] at h1
      have h2 := enc_ten HN.out
      have h3 := enc_pos m
      have h4 := HL.out
      omega
    have HM := Lib.hid hm
    have HQ := Lib.hid hq
    have H' := Lib.hid h'
    have ST' := Lib.hid st'
    clear hm h' st' hq
    by_cases hlt : m < 128
    · go_wp2_with fail
      refine (byte_tri p l' _ hlen _ _ H'.out).mono ?_
      rintro e w2 ⟨S2, ⟨rfl, h2⟩, st2⟩
      have H2 := Lib.hid h2
      have ST2 := Lib.hid (ST'.out.trans st2)
      clear h2 st2
      go_wp2_with fail
      go_end0
      have hq := HQ.out
      rw [enc_small hlt] at hq
      rw [← hq]
      exact ⟨S2, ⟨rfl, H2.out⟩, ST2.out⟩
    · go_wp2_with fail
      rw [Bit.or128]
      refine (byte_tri p l' _ hlen _ _ H'.out).mono ?_
      rintro e w2 ⟨S2, ⟨rfl, h2⟩, st2⟩
      have H2 := Lib.hid h2
      have ST2 := Lib.hid (ST'.out.trans st2)
      clear h2 st2
      go_wp2_with fail
      go_roundw
      case rel =>
        have hq := HQ.out
        rw [enc_big hlt] at hq
        exact ⟨m / 128, congrArg (Value.int .u64) (by omega), l' ++ [((m % 128 + 128 : Nat) : Int)], S2, Nat.lt_of_le_of_lt (Nat.div_le_self _ _) HM.out.lt, by rw [List.append_assoc]; exact hq, H2.out, ST2.out⟩
      case measure => simp [intOf]; omega

theorem zig_u64 {n : Int} (n0 : -9223372036854775808 ≤ n) (n1 : n ≤ 9223372036854775807) : U64 (Bit.zig n) := Bit.zig_lt n0 n1
/-- A word's four bytes. -/
def word4 (n : Nat) : List Int := [((n % 256 : Nat) : Int), ((n / 256 % 256 : Nat) : Int), ((n / 65536 % 256 : Nat) : Int), ((n / 16777216 : Nat) : Int)]

set_option maxHeartbeats 1000000 in
theorem word_tri (p : Nat) (l : List Int) (n : Nat) (hl : l.length + 10 ≤ 140737488355328) (hn : n ≤ 4294967295) :
    Tri Try.prog 31 #[.pointer (some ⟨p, 0, none⟩), .int .u32 n] (Wr p l) (fun e => Fact (e = .returned (.tuple #[])) (Wr p (l ++ word4 n))) := by
  intro w S h
  have H := Lib.hid h
  clear h
  go_enter Try.func31, Try.ntmps31
  go_wp2_with fail
  have ha := Sep.alloc (loc_wr p l) H.out #[.int .u8 (↑n % 256), .int .u8 (↑n / 256 % 256), .int .u8 (↑n / 65536 % 256), .int .u8 (↑n / 16777216)] 5
  refine (put_tri p l (some ⟨w.heap.size, 0, none⟩) 4 (word4 n) _ (Lcl.blk w.heap.size #[.int .u8 (↑n % 256), .int .u8 (↑n / 256 % 256), .int .u8 (↑n / 65536 % 256), .int .u8 (↑n / 16777216)] 5) (fun w S h => h.reads (by simp [word4])) (by simp [word4]; omega) _ _ ha.1.comm).mono ?_
  rintro e w2 ⟨S2, ⟨rfl, h2⟩, st2⟩
  obtain ⟨S3, h3, hs⟩ := h2.comm.drop
  have H2 := Lib.hid h3
  have ST2 := Lib.hid ((ha.2.trans st2).less hs)
  clear h2 st2 h3 hs ha
  go_wp2_with fail
  go_end0
  exact ⟨S3, ⟨rfl, H2.out⟩, ST2.out⟩

theorem wr_c0 {p : Nat} {l : List Int} {w : World} {S : Nat → Prop} (h : Wr p l w S) : ∃ A c, w.cell? ⟨p, 0, none⟩ = some (.slice A l.length c) ∧ Reads w .u8 A l ∧ l.length ≤ 9223372036854775807 := by
  obtain ⟨v, h⟩ := h
  obtain ⟨T, hT, _⟩ := h.comm.left
  obtain ⟨T2, hT2, _⟩ := h.left
  obtain ⟨A, c, rfl, _, hr, _⟩ := hT2.reads
  exact ⟨A, c, hT.cell 0, hr, hT2.bound⟩

set_option maxHeartbeats 1000000 in
/-- All its bytes, as a row of their own. -/
theorem bytes_tri (p : Nat) (l : List Int) (hl : l.length ≤ 140737488355328) : Tri Try.prog 33 #[.pointer (some ⟨p, 0, none⟩)] (Wr p l)
    (fun e => Some fun v => Fact (e = .returned v) (Sep (Row 5 .u8 v l) (Wr p l))) := by
  intro w S h
  obtain ⟨A, c, c0, hr, hb⟩ := wr_c0 h
  have hB := sepEmpty (loc_wr p l) h 5 .u8
  obtain ⟨T, hT, _⟩ := hB.1.comm.left
  obtain ⟨A2, c2, c3, hr2, _⟩ := wr_c0 hT
  have c4 : (w.alloc (.cells #[] 5)).cell? ⟨p, 0, none⟩ = some (.slice A l.length c) := (((Below.refl w.heap.size w).alloc (Nat.le_refl _) (.cells #[] 5)).cell (p := ⟨p, 0, none⟩) (World.block_lt_of_cell? w _ c0)).trans c0
  have HR := Lib.hid (hr.later (w' := w.alloc (.cells #[] 5)) ((Below.refl _ _).alloc (Nat.le_refl _) _))
  have H := Lib.hid hB
  clear h hB hr hT hr2 c3
  go_enter Try.func33, Try.ntmps33
  go_wp2_with (at_builtin; refine append_row _ rfl _ _ 22 rfl 5 .u8 1 Try.underlying22 info_u8 (by decide) _ [] l A l.length c rfl rfl rfl (loc_wr p l) H.out.1 HR.out (by simp; omega) ?_; intro A' c' w' S' h' st'; have H' := Lib.hid h'; have ST' := Lib.hid st'; clear h' st')
  go_ret
  have h5 := H'.out
  simp only [List.length_nil, Nat.zero_add, List.nil_append] at h5
  exact ⟨S', ⟨.slice A' l.length c', rfl, h5⟩, H.out.2.trans ST'.out⟩

end Go.Proofs.Ytfpeeilenocaoaa.Wire
