/- The writer's bytes, read: where they lie, a new reader over them, its end. -/
import Derived.Test.YtpgnlpcnancplaaBitsP
namespace Go.Proofs.Ytpgnlpcnancplaa.Bits
open Go.RowKit Go.Proofs.Ytpgnlpcnancplaa.Own Go.Proofs.Ytpgnlpcnancplaa.Rely
attribute [local go_sem] max_ints min_ints

/-- Bytes that are read, with the block that they lie in. -/
def RdF (A : Option Addr) (B : List Int) : Asn := fun w S => Reads w .u8 A B ∧ ∀ k, S k ↔ (0 < B.length ∧ ∃ a, A = some a ∧ a.block = k)
theorem loc_rdf (A : Option Addr) (B : List Int) : Lcl (RdF A B) where
  keep := by
    rintro w w' S ⟨h, hS⟩ hk
    refine ⟨fun i hi => ?_, hS⟩
    obtain ⟨b, o, rfl, h1, h2⟩ := h i hi
    have hb : w'.heap[b]? = w.heap[b]? := hk b ((hS b).2 ⟨by omega, _, rfl, rfl⟩)
    have hlt : b < w'.heap.size := by
      have e : w.heap[b]? = some w.heap[b] := Array.getElem?_eq_getElem h1
      rw [← hb] at e
      exact (Array.getElem?_eq_some_iff.1 e).1
    refine ⟨b, o, rfl, hlt, ?_⟩
    rw [← h2]
    simp only [World.cell?, hb]
  lt := by
    rintro w S k ⟨h, hS⟩ hk
    obtain ⟨h0, a, rfl, rfl⟩ := (hS k).1 hk
    obtain ⟨b, o, e, h1, _⟩ := h 0 h0
    injection e with e
    subst e
    exact h1

set_option maxHeartbeats 1000000 in
theorem bytes_f (p : Nat) (L : List Bool) (hL : L.length ≤ 1000000000) (w : World) (S : Nat → Prop) (h : BW p L w S) : Calls Try.prog 23 #[.pointer (some ⟨p, 0, none⟩)] w
    fun e w' => ∃ A c, e = .returned (.slice A (pack L).length c) ∧ (pack L).length ≤ c ∧ Below w.heap.size w w' ∧ ∃ S', Sep (BW p L) (RdF A (pack L)) w' S' ∧ Step S S' w w' := by
  have hb := Lib.hid h
  obtain ⟨A, c, c0, _, hr⟩ := bw_c h
  have hl : (pack L).length ≤ 1000000000 := by rw [pack_length]; omega
  have hE := sepEmpty Lcl.emp (w := w) (S := fun _ => False) (fun _ x => x) 5 .u8
  have c4 : (w.alloc (.cells #[] 5)).cell? ⟨p, 0, none⟩ = some (.slice A (pack L).length c) := (((Below.refl w.heap.size w).alloc (Nat.le_refl _) (.cells #[] 5)).cell (p := ⟨p, 0, none⟩) (World.block_lt_of_cell? w _ c0)).trans c0
  have HR := Lib.hid (hr.later (w' := w.alloc (.cells #[] 5)) ((Below.refl _ _).alloc (Nat.le_refl _) _))
  have H := Lib.hid hE
  clear h hE hr
  generalize hP : pack L = P at *
  have HP := Lib.hid hP
  clear hP
  go_enter Try.func23, Try.ntmps23
  go_wp2_with (at_builtin; refine append_row _ rfl _ _ 26 rfl 5 .u8 1 Try.underlying26 info_u8 (by decide) _ [] P A P.length c rfl rfl rfl Lcl.emp H.out.1 HR.out (by simp; omega) ?_; intro A' c' w' S' h' st'; have H' := Lib.hid h'; have ST' := Lib.hid st'; clear h' st')
  go_ret
  have h5 := H'.out
  simp only [List.length_nil, Nat.zero_add, List.nil_append] at h5
  have hst := (H.out.2).trans ST'.out
  have hbl := below_of hst
  have h6 := Sep.left_of_emp h5
  obtain ⟨A2, c2, e2, h7, h8, h9⟩ := h6.reads
  injection e2 with e3 _ e4
  subst e3 e4
  have hbw := (loc_bw p L).keep hb.out fun k hk => hbl.block k ((loc_bw p L).lt hb.out hk)
  refine ⟨_, _, rfl, h7, hbl, fun k => S k ∨ (0 < P.length ∧ ∃ a, A' = some a ∧ a.block = k), ⟨S, _, hbw, ⟨h8, fun k => Iff.rfl⟩, fun k hk hk' => ?_, fun k => Iff.rfl⟩, ⟨.of_below hbl, fun k hk => ?_⟩⟩
  · obtain ⟨_, a, rfl, rfl⟩ := hk'
    have h10 := (loc_bw p L).lt hb.out hk
    rcases hst.fresh a.block (h9 a rfl) with x | x
    · exact x
    · omega
  · rcases hk with hk | ⟨_, a, rfl, rfl⟩
    · exact .inl hk
    · rcases hst.fresh a.block (h9 a rfl) with x | x
      · exact x.elim
      · exact .inr x

set_option maxHeartbeats 1000000 in
theorem read_is (A : Option Addr) (n c : Nat) (w : World) : Calls Try.prog 25 #[.slice A n c] w
    fun e w' => e = .returned (.pointer (some ⟨w.heap.size, 0, none⟩)) ∧ w' = w.alloc (.cells #[.slice A n c, .int .i64 0, .bool false] 78) := by
  go_enter Try.func25, Try.ntmps25
  go_wp2
  go_ret
  exact ⟨rfl, rfl⟩

set_option maxHeartbeats 2000000 in
theorem end_ok (p : Nat) (A : Option Addr) (c : Nat) (B : List Int) (at_ : Nat) (F : Asn) (hr : ∀ w S, F w S → Reads w .u8 A B) (hb : ∀ x ∈ B, 0 ≤ x ∧ x ≤ 255) (hB : B.length ≤ 1000000000)
    (h0 : at_ ≤ 8 * B.length) (h8 : 8 * B.length < at_ + 8) (hz : ∀ i, at_ ≤ i → bitAt B i = false) (w : World) (S : Nat → Prop) (h : RD p A c B at_ false F w S) :
    Calls Try.prog 28 #[.pointer (some ⟨p, 0, none⟩)] w fun e w' => e = .returned (.int .i64 0) ∧ ∃ n, w' = w.drewN n := by
  obtain ⟨c0, c1, c2, f1, f2⟩ := rd_cells h
  have hR : Reads w .u8 A B := by obtain ⟨T, hT, _⟩ := h.comm.left; exact hr _ _ hT
  have HR := Lib.hid hR
  have HB := Lib.hid hb
  have HZ := Lib.hid hz
  have hg : decide ((8 : Int) ≤ 8 * (B.length : Int) - (at_ : Int)) = false := by simp; omega
  clear h hR hr hb hz
  go_enter Try.func28, Try.ntmps28
  go_wp2_with fail
  go_quiet (fail)
  go_wp2_with fail
  go_loopw [3] (fun v wr => ∃ (i m : Nat), v = .int .i64 i ∧ at_ ≤ i ∧ i ≤ 8 * B.length ∧ wr = w.drewN m) (fun v _ => 8 * B.length - (intOf v).toNat)
  case atStart => exact ⟨at_, _, rfl, Nat.le_refl _, h0, rfl⟩
  case round =>
    obtain ⟨i, m, rfl, hi0, hi1, rfl⟩ := hrel
    by_cases hlt : i < 8 * B.length
    · have hix : i / 8 < B.length := by omega
      obtain ⟨b, o, rfl, hblt, cx⟩ := HR.out.at hix
      have hz0 : 0 ≤ B.getD (i / 8) 0 ∧ B.getD (i / 8) 0 ≤ 255 := by
        rw [List.getD_eq_getElem?_getD, List.getElem?_eq_getElem hix]; exact HB.out _ (List.getElem_mem hix)
      have hbc := bit_code _ hz0.1 hz0.2 (7 - i % 8)
      rw [show (B.getD (i / 8) 0).toNat.testBit (7 - i % 8) = false from HZ.out i hi0, if_neg (by decide)] at hbc
      generalize B.getD (i / 8) 0 = z at cx hz0 hbc
      have h7 : (7 : Int) - (i : Int) % 8 = ((7 - i % 8 : Nat) : Int) := by omega
      obtain ⟨j, hj⟩ : ∃ j : Nat, j = 7 - i % 8 := ⟨_, rfl⟩
      rw [← hj] at h7 hbc
      have hq : (i : Int) / 8 < (B.length : Int) := by omega
      have hl : decide ((i : Int) < 8 * (B.length : Int)) = true := by simp; omega
      clear hj
      go_wp2_with fail
      go_roundw
      case rel => exact ⟨i + 1, m, by first | rfl | simp, by omega, by omega, rfl⟩
      case measure => first | (simp [intOf]; done) | (simp [intOf]; omega)
    · have hl : decide ((i : Int) < 8 * (B.length : Int)) = false := by simp; omega
      go_wp2_with fail
      go_ret
      exact ⟨rfl, _, rfl⟩
end Go.Proofs.Ytpgnlpcnancplaa.Bits
