/- The law WireGrows: a greater number has no fewer bytes. -/
import Derived.Test.YtpgnlpcnancplaaWire
namespace Go.Proofs.Ytpgnlpcnancplaa.Wire
open Go.RowKit Go.Proofs.Ytpgnlpcnancplaa.Own
attribute [local go_sem] max_ints min_ints

theorem new_writer {A : Asn} (hA : Lcl A) {w : World} {S : Nat → Prop} (h : A w S) :
    Sep (Wr w.heap.size []) A (w.alloc (.cells #[.slice none 0 0] 28)) (fun k => k = w.heap.size ∨ S k) ∧ Step S (fun k => k = w.heap.size ∨ S k) w (w.alloc (.cells #[.slice none 0 0] 28)) := by
  obtain ⟨⟨S1, S2, h1, h2, d, q⟩, st⟩ := Sep.alloc hA h #[.slice none 0 0] 28
  refine ⟨⟨S1, S2, ⟨.slice none 0 0, fun _ => False, S1, Row.nil _ _ _, h1, fun _ x _ => x, fun k => by simp⟩, h2, d, q⟩, st⟩

set_option maxHeartbeats 1000000 in
set_option maxRecDepth 20000 in
theorem awake_tri : Tri Try.prog 11 #[] Emp (fun e => Fact (e = .returned (.bool true)) Emp) := by
  intro w S h
  have H := Lib.hid (new_writer Lcl.emp h)
  have he : enc 300 = [172, 2] := by rw [enc_big (by omega), enc_small (by omega)]; rfl
  have HE := Lib.hid he
  clear h he
  go_enter Try.func11, Try.ntmps11
  go_wp2_with fail
  refine ((uint_tri w.heap.size [] 300 (by simp) (by show 300 < 18446744073709551616; omega)).frame Lcl.emp _ _ H.out.1).mono ?_
  rintro e w2 ⟨S2, h2f, st2⟩
  obtain ⟨rfl, h2⟩ := Sep.fact h2f
  rw [List.nil_append, HE.out] at h2
  have H2 := Lib.hid h2
  have ST2 := Lib.hid (H.out.2.trans st2)
  clear h2f h2 st2
  go_wp2_with fail
  refine ((bytes_tri w.heap.size [172, 2] (by simp)).frame Lcl.emp _ _ H2.out).mono ?_
  rintro e w3 ⟨S3, h3s, st3⟩
  obtain ⟨v, h3f⟩ := Sep.some h3s
  obtain ⟨rfl, h3⟩ := Sep.fact h3f
  obtain ⟨T, hT, _⟩ := h3.assoc.left
  obtain ⟨A, c, rfl, _, hr, _⟩ := hT.reads
  have hcv : (convert 26 9 (.slice A 2 c)).run Try.prog w3 = .ok (.string (strOfNums [172, 2])) w3 := hr.string (P := Try.prog) Try.underlying26 Try.underlying5 Try.underlying9 c
  have ST3 := Lib.hid (ST2.out.trans st3)
  clear h3s h3f h3 hT hr st3
  have hlit : ((strOfNums [172, 2]).toList == [172, 2]) = true := by rw [strOfNums_toList]; decide
  go_wp2_with fail
  go_ret
  refine ⟨fun _ => False, ⟨?_, fun _ x => x⟩, ST3.out.less (fun _ x => x.elim)⟩
  rfl

/-- The three variables that the functions have. -/
def Vars (w : World) (a b : Nat) (n : Int) (wr : World) : Prop :=
  wr.cell? ⟨w.heap.size, 0, none⟩ = some (.int .u64 a) ∧ wr.cell? ⟨w.heap.size + 1, 0, none⟩ = some (.int .u64 b) ∧ wr.cell? ⟨w.heap.size + 2, 0, none⟩ = some (.int .i64 n) ∧ w.heap.size + 3 ≤ wr.heap.size
theorem Vars.step {w : World} {a b : Nat} {n : Int} {w1 w2 : World} (h : Vars w a b n w1) (hb : Below (w.heap.size + 3) w1 w2) : Vars w a b n w2 :=
  ⟨(hb.cell (p := ⟨w.heap.size, 0, none⟩) (show w.heap.size < w.heap.size + 3 by omega)).trans h.1, (hb.cell (p := ⟨w.heap.size + 1, 0, none⟩) (show w.heap.size + 1 < w.heap.size + 3 by omega)).trans h.2.1,
    (hb.cell (p := ⟨w.heap.size + 2, 0, none⟩) (show w.heap.size + 2 < w.heap.size + 3 by omega)).trans h.2.2.1, Nat.le_trans h.2.2.2 hb.size⟩

set_option maxHeartbeats 1000000 in
set_option maxRecDepth 20000 in
theorem fun2 (w : World) (a b : Nat) (n : Int) (p : Nat) (wr : World) (S : Nat → Prop) (hv : Vars w a b n wr) (h : Wr p [] wr S) (ha : U64 a) (hb : U64 b) :
    Calls Try.prog 14 #[.pointer (some ⟨p, 0, none⟩), .pointer (some ⟨w.heap.size, 0, none⟩), .pointer (some ⟨w.heap.size + 1, 0, none⟩)] wr fun e w' => ∃ S', Fact (e = .returned (.tuple #[])) (Wr p (enc (min a b))) w' S' ∧ Step S S' wr w' := by
  obtain ⟨c1, c2, c3, _⟩ := hv
  have H := Lib.hid h
  clear h
  have HA := Lib.hid ha
  have HB := Lib.hid hb
  clear ha hb
  go_enter Try.func14, Try.ntmps14
  go_wp2_with fail
  rw [show (min (a : Int) (b : Int)) = ((min a b : Nat) : Int) by omega]
  refine (uint_tri p [] (min a b) (by simp) (by have h1 := HA.out; have h2 := HB.out; unfold U64 at *; omega) _ _ H.out).mono ?_
  rintro e w2 ⟨S2, ⟨rfl, h2⟩, st2⟩
  have H2 := Lib.hid h2
  have ST2 := Lib.hid st2
  clear h2 st2
  go_wp2_with fail
  go_end0
  exact ⟨S2, ⟨rfl, by have := H2.out; rwa [List.nil_append] at this⟩, ST2.out⟩
set_option maxHeartbeats 1000000 in
set_option maxRecDepth 20000 in
theorem size2 (w : World) (a b : Nat) (n : Int) (wr : World) (hv : Vars w a b n wr) (ha : U64 a) (hb : U64 b) :
    Calls Try.prog 12 #[.func (.func 14) #[] #[.pointer (some ⟨w.heap.size, 0, none⟩), .pointer (some ⟨w.heap.size + 1, 0, none⟩)]] wr fun e w' => e = .returned (.int .i64 (enc (min a b)).length) ∧ Below (w.heap.size + 3) wr w' := by
  have HV := Lib.hid hv
  have hw := new_writer Lcl.emp (w := wr) (S := fun _ => False) (fun _ x => x)
  have HW := Lib.hid hw
  have hsz := hv.2.2.2
  have V2 := Lib.hid (hv.step (((Below.refl _ _).alloc hsz (.cells #[.slice none 0 0] 28))))
  have HA := Lib.hid ha
  have HB := Lib.hid hb
  clear ha hb
  clear hv hw
  go_enter Try.func12, Try.ntmps12
  go_wp2_with fail
  refine (fun2 w a b n wr.heap.size _ _ V2.out HW.out.1.left_of_emp HA.out HB.out).mono ?_
  rintro e w2 ⟨S2, ⟨rfl, h2⟩, st2⟩
  have H2 := Lib.hid h2
  have ST2 := Lib.hid (HW.out.2.trans st2)
  clear h2 st2
  go_wp2_with fail
  refine (len_is wr.heap.size _ _ _ H2.out).mono ?_
  rintro e w3 ⟨rfl, rfl⟩
  go_wp2_with fail
  go_ret
  exact ⟨rfl, ST2.out.keep.below hsz (fun _ _ x => x)⟩
set_option maxHeartbeats 1000000 in
set_option maxRecDepth 20000 in
theorem fun3 (w : World) (a b : Nat) (n : Int) (p : Nat) (wr : World) (S : Nat → Prop) (hv : Vars w a b n wr) (h : Wr p [] wr S) (ha : U64 a) (hb : U64 b) :
    Calls Try.prog 16 #[.pointer (some ⟨p, 0, none⟩), .pointer (some ⟨w.heap.size, 0, none⟩), .pointer (some ⟨w.heap.size + 1, 0, none⟩)] wr fun e w' => ∃ S', Fact (e = .returned (.tuple #[])) (Wr p (enc (max a b))) w' S' ∧ Step S S' wr w' := by
  obtain ⟨c1, c2, c3, _⟩ := hv
  have H := Lib.hid h
  clear h
  have HA := Lib.hid ha
  have HB := Lib.hid hb
  clear ha hb
  go_enter Try.func16, Try.ntmps16
  go_wp2_with fail
  rw [show (max (a : Int) (b : Int)) = ((max a b : Nat) : Int) by omega]
  refine (uint_tri p [] (max a b) (by simp) (by have h1 := HA.out; have h2 := HB.out; unfold U64 at *; omega) _ _ H.out).mono ?_
  rintro e w2 ⟨S2, ⟨rfl, h2⟩, st2⟩
  have H2 := Lib.hid h2
  have ST2 := Lib.hid st2
  clear h2 st2
  go_wp2_with fail
  go_end0
  exact ⟨S2, ⟨rfl, by have := H2.out; rwa [List.nil_append] at this⟩, ST2.out⟩
set_option maxHeartbeats 1000000 in
set_option maxRecDepth 20000 in
theorem size3 (w : World) (a b : Nat) (n : Int) (wr : World) (hv : Vars w a b n wr) (ha : U64 a) (hb : U64 b) :
    Calls Try.prog 12 #[.func (.func 16) #[] #[.pointer (some ⟨w.heap.size, 0, none⟩), .pointer (some ⟨w.heap.size + 1, 0, none⟩)]] wr fun e w' => e = .returned (.int .i64 (enc (max a b)).length) ∧ Below (w.heap.size + 3) wr w' := by
  have HV := Lib.hid hv
  have hw := new_writer Lcl.emp (w := wr) (S := fun _ => False) (fun _ x => x)
  have HW := Lib.hid hw
  have hsz := hv.2.2.2
  have V2 := Lib.hid (hv.step (((Below.refl _ _).alloc hsz (.cells #[.slice none 0 0] 28))))
  have HA := Lib.hid ha
  have HB := Lib.hid hb
  clear ha hb
  clear hv hw
  go_enter Try.func12, Try.ntmps12
  go_wp2_with fail
  refine (fun3 w a b n wr.heap.size _ _ V2.out HW.out.1.left_of_emp HA.out HB.out).mono ?_
  rintro e w2 ⟨S2, ⟨rfl, h2⟩, st2⟩
  have H2 := Lib.hid h2
  have ST2 := Lib.hid (HW.out.2.trans st2)
  clear h2 st2
  go_wp2_with fail
  refine (len_is wr.heap.size _ _ _ H2.out).mono ?_
  rintro e w3 ⟨rfl, rfl⟩
  go_wp2_with fail
  go_ret
  exact ⟨rfl, ST2.out.keep.below hsz (fun _ _ x => x)⟩
set_option maxHeartbeats 1000000 in
set_option maxRecDepth 20000 in
theorem fun4 (w : World) (a b : Nat) (n : Int) (p : Nat) (wr : World) (S : Nat → Prop) (hv : Vars w a b n wr) (h : Wr p [] wr S) (n0 : -9223372036854775808 ≤ n) (n1 : n ≤ 9223372036854775807) :
    Calls Try.prog 17 #[.pointer (some ⟨p, 0, none⟩), .pointer (some ⟨w.heap.size + 2, 0, none⟩)] wr fun e w' => ∃ S', Fact (e = .returned (.tuple #[])) (Wr p (enc (Bit.zig n))) w' S' ∧ Step S S' wr w' := by
  obtain ⟨c1, c2, c3, _⟩ := hv
  have H := Lib.hid h
  clear h
  go_enter Try.func17, Try.ntmps17
  go_wp2_with fail
  refine (int_tri p [] n (by simp) n0 n1 _ _ H.out).mono ?_
  rintro e w2 ⟨S2, ⟨rfl, h2⟩, st2⟩
  have H2 := Lib.hid h2
  have ST2 := Lib.hid st2
  clear h2 st2
  go_wp2_with fail
  go_end0
  exact ⟨S2, ⟨rfl, by have := H2.out; rwa [List.nil_append] at this⟩, ST2.out⟩
set_option maxHeartbeats 1000000 in
set_option maxRecDepth 20000 in
theorem size4 (w : World) (a b : Nat) (n : Int) (wr : World) (hv : Vars w a b n wr) (n0 : -9223372036854775808 ≤ n) (n1 : n ≤ 9223372036854775807) :
    Calls Try.prog 12 #[.func (.func 17) #[] #[.pointer (some ⟨w.heap.size + 2, 0, none⟩)]] wr fun e w' => e = .returned (.int .i64 (enc (Bit.zig n)).length) ∧ Below (w.heap.size + 3) wr w' := by
  have HV := Lib.hid hv
  have hw := new_writer Lcl.emp (w := wr) (S := fun _ => False) (fun _ x => x)
  have HW := Lib.hid hw
  have hsz := hv.2.2.2
  have V2 := Lib.hid (hv.step (((Below.refl _ _).alloc hsz (.cells #[.slice none 0 0] 28))))
  clear hv hw
  go_enter Try.func12, Try.ntmps12
  go_wp2_with fail
  refine (fun4 w a b n wr.heap.size _ _ V2.out HW.out.1.left_of_emp n0 n1).mono ?_
  rintro e w2 ⟨S2, ⟨rfl, h2⟩, st2⟩
  have H2 := Lib.hid h2
  have ST2 := Lib.hid (HW.out.2.trans st2)
  clear h2 st2
  go_wp2_with fail
  refine (len_is wr.heap.size _ _ _ H2.out).mono ?_
  rintro e w3 ⟨rfl, rfl⟩
  go_wp2_with fail
  go_ret
  exact ⟨rfl, ST2.out.keep.below hsz (fun _ _ x => x)⟩
set_option maxHeartbeats 1000000 in
set_option maxRecDepth 20000 in
theorem fun5 (w : World) (a b : Nat) (n : Int) (p : Nat) (wr : World) (S : Nat → Prop) (hv : Vars w a b n wr) (h : Wr p [] wr S) (n0 : -9223372036854775808 ≤ n) (n1 : n ≤ 9223372036854775807) :
    Calls Try.prog 19 #[.pointer (some ⟨p, 0, none⟩), .pointer (some ⟨w.heap.size + 2, 0, none⟩)] wr fun e w' => ∃ S', Fact (e = .returned (.tuple #[])) (Wr p (enc (Bit.zig (-1 - n)))) w' S' ∧ Step S S' wr w' := by
  obtain ⟨c1, c2, c3, _⟩ := hv
  have H := Lib.hid h
  clear h
  have hx := Bit.not_i64 n n0 n1
  have hs : IntKind.i64.signed = true := rfl
  go_enter Try.func19, Try.ntmps19
  go_wp2_with fail
  refine (int_tri p [] (-1 - n) (by simp) (by omega) (by omega) _ _ H.out).mono ?_
  rintro e w2 ⟨S2, ⟨rfl, h2⟩, st2⟩
  have H2 := Lib.hid h2
  have ST2 := Lib.hid st2
  clear h2 st2
  go_wp2_with fail
  go_end0
  exact ⟨S2, ⟨rfl, by have := H2.out; rwa [List.nil_append] at this⟩, ST2.out⟩
set_option maxHeartbeats 1000000 in
set_option maxRecDepth 20000 in
theorem size5 (w : World) (a b : Nat) (n : Int) (wr : World) (hv : Vars w a b n wr) (n0 : -9223372036854775808 ≤ n) (n1 : n ≤ 9223372036854775807) :
    Calls Try.prog 12 #[.func (.func 19) #[] #[.pointer (some ⟨w.heap.size + 2, 0, none⟩)]] wr fun e w' => e = .returned (.int .i64 (enc (Bit.zig (-1 - n))).length) ∧ Below (w.heap.size + 3) wr w' := by
  have HV := Lib.hid hv
  have hw := new_writer Lcl.emp (w := wr) (S := fun _ => False) (fun _ x => x)
  have HW := Lib.hid hw
  have hsz := hv.2.2.2
  have V2 := Lib.hid (hv.step (((Below.refl _ _).alloc hsz (.cells #[.slice none 0 0] 28))))
  clear hv hw
  go_enter Try.func12, Try.ntmps12
  go_wp2_with fail
  refine (fun5 w a b n wr.heap.size _ _ V2.out HW.out.1.left_of_emp n0 n1).mono ?_
  rintro e w2 ⟨S2, ⟨rfl, h2⟩, st2⟩
  have H2 := Lib.hid h2
  have ST2 := Lib.hid (HW.out.2.trans st2)
  clear h2 st2
  go_wp2_with fail
  refine (len_is wr.heap.size _ _ _ H2.out).mono ?_
  rintro e w3 ⟨rfl, rfl⟩
  go_wp2_with fail
  go_ret
  exact ⟨rfl, ST2.out.keep.below hsz (fun _ _ x => x)⟩
theorem enc_mono : ∀ (a b : Nat), a ≤ b → (enc a).length ≤ (enc b).length := by
  intro a
  induction a using Nat.strongRecOn with
  | _ a ih =>
    intro b hab
    by_cases ha : a < 128
    · rw [enc_small ha]
      have := enc_pos b
      simp only [List.length_singleton]
      omega
    · rw [enc_big ha, enc_big (show ¬ b < 128 by omega)]
      have := ih (a / 128) (by omega) (b / 128) (Nat.div_le_div_right hab)
      simp only [List.length_cons]; omega
theorem enc_zig (n : Int) : (enc (Bit.zig n)).length = (enc (Bit.zig (-1 - n))).length := by
  have key : ∀ k : Nat, (enc (2 * k)).length = (enc (2 * k + 1)).length := by
    intro k
    by_cases h : 2 * k < 128
    · rw [enc_small h, enc_small (by omega)]; rfl
    · rw [enc_big h, enc_big (n := 2 * k + 1) (by omega), List.length_cons, List.length_cons, show 2 * k / 128 = (2 * k + 1) / 128 by omega]
  by_cases h : 0 ≤ n
  · have e1 : Bit.zig n = 2 * n.toNat := by unfold Bit.zig; rw [if_pos h]; omega
    have e2 : Bit.zig (-1 - n) = 2 * n.toNat + 1 := by unfold Bit.zig; rw [if_neg (by omega)]; omega
    rw [e1, e2, key]
  · have e1 : Bit.zig n = 2 * (-1 - n).toNat + 1 := by unfold Bit.zig; rw [if_neg h]; omega
    have e2 : Bit.zig (-1 - n) = 2 * (-1 - n).toNat := by unfold Bit.zig; rw [if_pos (by omega)]; omega
    rw [e1, e2, key]

set_option maxHeartbeats 2000000 in
set_option maxRecDepth 20000 in
theorem grows_law (a b : Nat) (n : Int) (w : World) (ha : U64 a) (hb : U64 b) (n0 : -9223372036854775808 ≤ n) (n1 : n ≤ 9223372036854775807) :
    Calls Try.prog 3 #[.int .u64 a, .int .u64 b, .int .i64 n] w fun e w' => e = .returned (.bool true) ∧ Below w.heap.size w w' := by
  have hv0 : Vars w a b n (((w.alloc (.cells #[.int .u64 ↑a] 22)).alloc (.cells #[.int .u64 ↑b] 22)).alloc (.cells #[.int .i64 n] 2)) := by
    refine ⟨?_, ?_, ?_, ?_⟩
    · exact cell_of_row _ _ 0 #[.int .u64 ↑a] 22 (0, 0) (by rw [Below.heap_alloc _ _ _ (by simp; try omega), Below.heap_alloc _ _ _ (by simp; try omega)]; exact heap_alloc_new w _)
    · exact cell_of_row _ _ 0 #[.int .u64 ↑b] 22 (0, 0) (by rw [Below.heap_alloc _ _ _ (by simp; try omega)]; have := heap_alloc_new (w.alloc (.cells #[.int .u64 ↑a] 22)) (.cells #[.int .u64 ↑b] 22); simpa using this)
    · exact cell_of_row _ _ 0 #[.int .i64 n] 2 (0, 0) (by have := heap_alloc_new ((w.alloc (.cells #[.int .u64 ↑a] 22)).alloc (.cells #[.int .u64 ↑b] 22)) (.cells #[.int .i64 n] 2); simpa using this)
    · simp
  have hb0 : Below w.heap.size w (((w.alloc (.cells #[.int .u64 ↑a] 22)).alloc (.cells #[.int .u64 ↑b] 22)).alloc (.cells #[.int .i64 n] 2)) :=
    (((Below.refl _ _).alloc (Nat.le_refl _) _).alloc (by simp) _).alloc (by simp; omega) _
  have V0 := Lib.hid hv0
  have B0 := Lib.hid hb0
  have l1 : (enc (min a b)).length ≤ (enc (max a b)).length := enc_mono _ _ (by omega)
  have l2 := enc_pos (min a b)
  have l3 : (enc (max a b)).length ≤ 10 := enc_ten (by unfold U64 at *; omega)
  have l4 : (enc (Bit.zig n)).length ≤ 10 := enc_ten (zig_u64 n0 n1)
  have g4 : decide (((enc (Bit.zig n)).length : Int) ≤ 10) = true := by simp; omega
  have L5 := Lib.hid (enc_zig n)
  have HA := Lib.hid ha
  have HB := Lib.hid hb
  clear hv0 hb0 ha hb
  go_enter Try.func3, Try.ntmps3
  go_wp2_with fail
  refine (awake_tri _ (fun _ => False) (fun _ x => x)).mono ?_
  rintro e w1 ⟨S1, ⟨rfl, h1⟩, st1⟩
  have V1 := Lib.hid (V0.out.step (st1.keep.below (by simp) (fun _ _ x => x)))
  have B1 := Lib.hid (B0.out.trans (st1.keep.below (by simp; omega) (fun _ _ x => x)))
  clear h1 st1
  go_wp2_with fail
  refine (size2 w a b n _ V1.out HA.out HB.out).mono ?_
  rintro e w2 ⟨rfl, hb2⟩
  have V2 := Lib.hid (V1.out.step hb2)
  have B2 := Lib.hid (B1.out.trans (hb2.mono (by omega)))
  clear hb2
  go_wp2_with fail
  refine (size3 w a b n _ V2.out HA.out HB.out).mono ?_
  rintro e w3 ⟨rfl, hb3⟩
  have V3 := Lib.hid (V2.out.step hb3)
  have B3 := Lib.hid (B2.out.trans (hb3.mono (by omega)))
  clear hb3
  go_wp2_with fail
  refine (size4 w a b n _ V3.out n0 n1).mono ?_
  rintro e w4 ⟨rfl, hb4⟩
  have V4 := Lib.hid (V3.out.step hb4)
  have B4 := Lib.hid (B3.out.trans (hb4.mono (by omega)))
  clear hb4
  go_wp2_with fail
  refine (size5 w a b n _ V4.out n0 n1).mono ?_
  rintro e w5 ⟨rfl, hb5⟩
  have B5 := Lib.hid (B4.out.trans (hb5.mono (by omega)))
  clear hb5
  rw [← L5.out]
  go_wp2_with fail
  go_ret
  exact ⟨rfl, B5.out⟩

theorem grows_wf (a b n : Int) (w : World) (ha : (Lit.int .u64 a).wf = true) (hb : (Lit.int .u64 b).wf = true) (hn : (Lit.int .i64 n).wf = true) :
    Calls Try.prog 3 #[.int .u64 a, .int .u64 b, .int .i64 n] w fun e w' => e = .returned (.bool true) ∧ Below w.heap.size w w' := by
  have h1 := wf_u64 ha
  have h2 := wf_u64 hb
  obtain ⟨a, rfl⟩ := Int.eq_ofNat_of_zero_le h1.1
  obtain ⟨b, rfl⟩ := Int.eq_ofNat_of_zero_le h2.1
  exact grows_law a b n w (by unfold U64; omega) (by unfold U64; omega) (wf_i64 hn).1 (wf_i64 hn).2

end Go.Proofs.Ytpgnlpcnancplaa.Wire
