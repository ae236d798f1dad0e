/- The law MeterTakes. -/
import Derived.Test.YthemincohmgihaaMeter
import Derived.Test.YthemincohmgihaaOwnB
import Derived.Deep.DeepCutAuto
import Derived.Deep.CutBlock
import Derived.LoopTactic
namespace Go.Proofs.Ythemincohmgihaa.Meter
open Go.RowKit Go.Proofs.Ythemincohmgihaa.Own
attribute [local go_sem] max_ints min_ints

theorem info_int : (Try.prog.info? 3).map (fun i => (i.zero, i.size, i.bytes)) = some (some (.int .i64 0), 1, 8) := by kernel_rfl

def InRange (l : List Int) : Prop := ∀ x ∈ l, -9223372036854775808 ≤ x ∧ x ≤ 9223372036854775807
theorem InRange.at {l : List Int} (h : InRange l) {i : Nat} (hi : i < l.length) : -9223372036854775808 ≤ l.getD i 0 ∧ l.getD i 0 ≤ 9223372036854775807 :=
  h _ (by simp [List.getD_eq_getElem?_getD, List.getElem?_eq_getElem hi])

theorem rowAt {A : Option Addr} {c n : Nat} {k : IntKind} {e : TypeId} {zs : List Int} {X B : Asn} {w : World} {S : Nat → Prop} (h : Sep X (Sep (Row e k (.slice A n c) zs) B) w S) {i : Nat} (hi : i < zs.length) :
    ∃ b o, A = some ⟨b, o, none⟩ ∧ b < w.heap.size ∧ w.cell? ⟨b, o + i, none⟩ = some (.int k (zs.getD i 0)) := by
  obtain ⟨T, hT, _⟩ := h.second.left
  obtain ⟨A', c', q, _, hr, _⟩ := hT.reads
  injection q with q1 q2 q3
  subst q1
  exact hr.at hi

set_option maxHeartbeats 1000000 in
set_option maxRecDepth 100000 in
theorem takes_calls (m : Int) (A1 : Option Addr) (c1 : Nat) (xs : List Int) (A2 : Option Addr) (c2 : Nat) (ys : List Int) (w : World) (m0 : -9223372036854775808 ≤ m) (m1 : m ≤ 9223372036854775807)
   (r1 : ArgI w .i64 A1 c1 xs) (l1 : xs.length ≤ 60) (r2 : ArgI w .u8 A2 c2 ys) (l2 : ys.length ≤ 60) :
    Calls Try.prog 6 #[.int .i64 m, .slice A1 xs.length c1, .slice A2 ys.length c2] w fun e w' => e = .returned (.bool true) ∧ Below w.heap.size w w' := by
  have hem : Emp w (fun _ => False) := fun _ x => x
  have HE := Lib.hid hem
  clear hem
  have R1 := Lib.hid r1
  have R2 := Lib.hid r2
  have X1 : Hid (InRange xs) := Lib.hid (fun x hx => wf_i64 (r1.rng x hx))
  have X2 : Hid (InRange ys) := Lib.hid (fun x hx => by have := wf_u8 (r2.rng x hx); omega)
  clear r1 r2
  have g1 : decide (60 < (xs.length : Int)) = false := decide_eq_false (by omega)
  have g2 : decide (60 < (ys.length : Int)) = false := decide_eq_false (by omega)
  have b0 : 0 ≤ max m 0 := by omega
  have b1 : max m 0 ≤ 9223372036854775807 := by omega
  go_enter Try.func6, Try.ntmps6
  go_wp2_with fail
  refine (awake_tri _ _ HE.out).mono ?_
  rintro e w1 ⟨S1, ⟨rfl, h1⟩, st1⟩
  have H1 := Lib.hid h1
  have ST1 := Lib.hid st1
  clear h1 st1
  go_wp2_with fail
  go_loopw [30] (fun i wr => ∃ k : Nat, k ≤ 2 ∧ i = .int .i64 k ∧ ∃ S, Blk w1.heap.size #[.bool false, .bool true] 4 wr S ∧ Step (fun _ => False) S w wr) (fun i _ => 2 - (intOf i).toNat)
  case atStart => exact ⟨0, by omega, rfl, _, (Sep.alloc Lcl.emp H1.out _ _).1.left_of_emp, ST1.out.trans (Sep.alloc Lcl.emp H1.out _ _).2⟩
  case round =>
    obtain ⟨k, hk, rfl, S, hb, st⟩ := hrel
    have HB := Lib.hid hb
    have ST := Lib.hid st
    have cb0 : wr.cell? ⟨w1.heap.size, 0, none⟩ = some (.bool false) := hb.cell 0
    have cb1 : wr.cell? ⟨w1.heap.size, 1, none⟩ = some (.bool true) := hb.cell 1
    clear hb st
    obtain rfl | rfl | rfl : k = 0 ∨ k = 1 ∨ k = 2 := by omega
    · go_wp2_with fail
      refine (((new_tri (max m 0) (by omega) (by omega)).frame (Lcl.blk _ _ _)) _ _ (Sep.emp_left HB.out)).mono ?_
      rintro e w3 ⟨S3, h3s, st3⟩
      obtain ⟨p, h3f⟩ := Sep.some h3s
      obtain ⟨rfl, h3⟩ := Sep.fact h3f
      clear h3s h3f
      rw [show max (max m 0) 0 = max m 0 by omega] at h3
      have H3 := Lib.hid h3
      have ST3 := Lib.hid (ST.out.trans st3)
      clear h3 st3
      go_wp2_with fail
      go_loopw [11, 59] (fun u i wr => ∃ (k : Nat) (uu : Int), k ≤ xs.length ∧ i = .int .i64 k ∧ u = .int .i64 uu ∧ 0 ≤ uu ∧ uu ≤ max m 0 ∧ ∃ S, Sep (Mt p uu (max m 0)) (Blk w1.heap.size #[.bool false, .bool true] 4) wr S ∧ Step (fun _ => False) S w wr) (fun _ i _ => xs.length - (intOf i).toNat)
      case atStart => exact ⟨0, 0, by omega, rfl, rfl, by omega, by omega, _, H3.out, ST3.out⟩
      case round =>
        obtain ⟨k, uu, hk, rfl, rfl, hu0, hu1, S, hs, st⟩ := hrel
        have HS := Lib.hid hs
        have ST := Lib.hid st
        clear hs st
        by_cases hlt : k < xs.length
        · obtain ⟨b, o, rfl, hb1, hc⟩ : ∃ b o, A1 = some ⟨b, o, none⟩ ∧ b < wr.heap.size ∧ wr.cell? ⟨b, o + k, none⟩ = some (.int .i64 (xs.getD k 0)) := (R1.out.reads.later (ST.out.keep.below (Nat.le_refl _) (fun _ _ x => x))).at hlt
          have hz0 := (X1.out).at hlt
          obtain ⟨z, hz⟩ : ∃ z, xs.getD k 0 = z := ⟨_, rfl⟩
          rw [hz] at hc hz0
          have HZ := Lib.hid hz
          clear hz
          have hm0 : 0 ≤ max z 0 := by omega
          have hm1 : max z 0 ≤ 9223372036854775807 := by omega
          have hmm : max (max z 0) 0 = max z 0 := by omega
          have hsub : 0 ≤ max m 0 - uu := by omega
          by_cases hg : max z 0 ≤ max m 0 - uu
          · go_wp2_with fail
            with_reducible refine ((take_ok p uu (max m 0) (max z 0) (by omega) (by omega) (by omega) (by omega) (by omega)).frame (Lcl.blk _ _ _) _ _ HS.out).mono ?_
            rintro e w5 ⟨S5, h5f, st5⟩
            obtain ⟨rfl, h5⟩ := Sep.fact h5f
            clear h5f
            rw [hmm] at h5
            have H5 := Lib.hid h5
            have ST5 := Lib.hid (ST.out.trans st5)
            obtain ⟨T5, hT5, _⟩ := h5.left
            have c0 := hT5.c0
            have c1 := hT5.c1
            clear h5 st5 hT5
            go_wp2_with (first | (go_at_call 20; (with_reducible refine (used_is p _ _ c0).mono ?_); rintro e w' ⟨rfl, rfl⟩) | (go_at_call 23; (with_reducible refine (limit_is p _ _ c1).mono ?_); rintro e w' ⟨rfl, rfl⟩))
            go_roundw
            case rel => exact ⟨k + 1, uu + max z 0, by omega, by go_num, rfl, by omega, by omega, S5, H5.out, ST5.out⟩
            case measure => simp [intOf]; omega
          · have hgd : decide (max z 0 ≤ max m 0 - uu) = false := decide_eq_false hg
            go_wp2_with fail
            with_reducible refine ((take_no p uu (max m 0) (max z 0) (by omega) (by omega) (by omega) (by omega) (by omega)).frame (Lcl.blk _ _ _) _ _ HS.out).mono ?_
            rintro e w5 ⟨S5, h5f, st5⟩
            obtain ⟨rfl, h5⟩ := Sep.fact h5f
            clear h5f
            have H5 := Lib.hid h5
            have ST5 := Lib.hid (ST.out.trans st5)
            obtain ⟨T5, hT5, _⟩ := h5.left
            have c0 := hT5.c0
            have c1 := hT5.c1
            clear h5 st5 hT5
            go_wp2_with (first | (go_at_call 20; (with_reducible refine (used_is p _ _ c0).mono ?_); rintro e w' ⟨rfl, rfl⟩) | (go_at_call 23; (with_reducible refine (limit_is p _ _ c1).mono ?_); rintro e w' ⟨rfl, rfl⟩))
            go_roundw
            case rel => exact ⟨k + 1, uu, by omega, by go_num, rfl, by omega, by omega, S5, H5.out, ST5.out⟩
            case measure => simp [intOf]; omega
        · have hkk : k = xs.length := by omega
          go_wp2_with fail
          go_roundw
          case rel => exact ⟨1, by omega, rfl, by obtain ⟨T, h1, h2⟩ := HS.out.drop; exact ⟨T, h1, ST.out.less h2⟩⟩
          case measure => simp [intOf]
    · have hp0 : 0 ≤ 1 + max m 0 % 500 := by omega
      have hp1 : 1 + max m 0 % 500 ≤ 500 := by omega
      go_wp2_with fail
      refine (((new_tri (1 + max m 0 % 500) (by omega) (by omega)).frame (Lcl.blk _ _ _)) _ _ (Sep.emp_left HB.out)).mono ?_
      rintro e w3 ⟨S3, h3s, st3⟩
      obtain ⟨p, h3f⟩ := Sep.some h3s
      obtain ⟨rfl, h3⟩ := Sep.fact h3f
      clear h3s h3f
      rw [show max (1 + max m 0 % 500) 0 = 1 + max m 0 % 500 by omega] at h3
      have H3 := Lib.hid h3
      have ST3 := Lib.hid (ST.out.trans st3)
      clear h3 st3
      go_wp2_with fail
      go_loopw [12, 46] (fun v i wr => ∃ (k : Nat), k ≤ ys.length ∧ i = .int .i64 k ∧ ∃ S, Sep (Row 3 .i64 v (ys.take k)) (Sep (Mt p 0 (1 + max m 0 % 500)) (Blk w1.heap.size #[.bool false, .bool true] 4)) wr S ∧ Step (fun _ => False) S w wr) (fun _ i _ => ys.length - (intOf i).toNat)
      case atStart => exact ⟨0, by omega, rfl, _, Sep.pair (Row.nil _ _ _) H3.out (fun _ q _ => q), ST3.out.less (fun x q => q.resolve_left id)⟩
      case round =>
        obtain ⟨k, hk, rfl, S, hs, st⟩ := hrel
        have HS := Lib.hid hs
        have ST := Lib.hid st
        clear hs st
        by_cases hlt : k < ys.length
        · obtain ⟨b, o, rfl, hb1, hc⟩ := (R2.out.reads.later (ST.out.keep.below (Nat.le_refl _) (fun _ _ x => x))).at hlt
          have hz0 := (X2.out).at hlt
          obtain ⟨z, hz⟩ : ∃ z, ys.getD k 0 = z := ⟨_, rfl⟩
          rw [hz] at hc hz0
          have hts : ys.take (k + 1) = ys.take k ++ [z] := by
            rw [List.take_succ_eq_append_getElem hlt, ← hz]; simp [List.getD_eq_getElem?_getD, List.getElem?_eq_getElem hlt]
          have HTS := Lib.hid hts
          clear hz hts
          go_wp2_with (at_builtin; go_loud (refine append_lit _ 3 rfl _ _ 37 rfl .i64 8 Try.underlying37 info_int (by decide) _ (ys.take k) [z] 1 1 rfl rfl rfl rfl (((loc_mt _ _ _).sep (Lcl.blk _ _ _))) HS.out (by simp; omega) ?_))
          intro v' w' S' h' st'
          have H' := Lib.hid h'
          have ST' := Lib.hid (ST.out.trans st')
          clear h' st'
          go_wp2_with fail
          go_roundw
          case rel => exact ⟨k + 1, by omega, by go_num, S', by rw [HTS.out]; exact H'.out, ST'.out⟩
          case measure => simp [intOf]; omega
        · have hkk : k = ys.length := by omega
          subst hkk
          have h4 := HS.out
          rw [List.take_length] at h4
          obtain ⟨T4, hT4, _⟩ := h4.left
          obtain ⟨A, c, rfl, hc4, _, _⟩ := hT4.reads
          clear hT4 HS
          have H4 := Lib.hid h4
          have XZ := Lib.hid X2.out
          have ST4 := Lib.hid ST.out
          clear h4 ST
          go_wp2_with fail
          go_loopw [11, 59] (fun u i wr => ∃ (k : Nat) (uu : Int), k ≤ ys.length ∧ i = .int .i64 k ∧ u = .int .i64 uu ∧ 0 ≤ uu ∧ uu ≤ 1 + max m 0 % 500 ∧ ∃ S, Sep (Mt p uu (1 + max m 0 % 500)) (Sep (Row 3 .i64 (.slice A ys.length c) ys) (Blk w1.heap.size #[.bool false, .bool true] 4)) wr S ∧ Step (fun _ => False) S w wr) (fun _ i _ => ys.length - (intOf i).toNat)
          case atStart => exact ⟨0, 0, by omega, rfl, rfl, by omega, by omega, _, H4.out.second, ST4.out⟩
          case round =>
            obtain ⟨k, uu, hk, rfl, rfl, hu0, hu1, S, hs, st⟩ := hrel
            have HS := Lib.hid hs
            have ST := Lib.hid st
            clear hs st
            by_cases hlt : k < ys.length
            · obtain ⟨b, o, rfl, hb1, hc⟩ : ∃ b o, A = some ⟨b, o, none⟩ ∧ b < wr.heap.size ∧ wr.cell? ⟨b, o + k, none⟩ = some (.int .i64 (ys.getD k 0)) := rowAt HS.out hlt
              have hz0 := (XZ.out).at hlt
              obtain ⟨z, hz⟩ : ∃ z, ys.getD k 0 = z := ⟨_, rfl⟩
              rw [hz] at hc hz0
              have HZ := Lib.hid hz
              clear hz
              have hm0 : 0 ≤ max z 0 := by omega
              have hm1 : max z 0 ≤ 9223372036854775807 := by omega
              have hmm : max (max z 0) 0 = max z 0 := by omega
              have hsub : 0 ≤ 1 + max m 0 % 500 - uu := by omega
              by_cases hg : max z 0 ≤ 1 + max m 0 % 500 - uu
              · go_wp2_with fail
                with_reducible refine ((take_ok p uu (1 + max m 0 % 500) (max z 0) (by omega) (by omega) (by omega) (by omega) (by omega)).frame ((Lcl.row _ _ _ _).sep (Lcl.blk _ _ _)) _ _ HS.out).mono ?_
                rintro e w5 ⟨S5, h5f, st5⟩
                obtain ⟨rfl, h5⟩ := Sep.fact h5f
                clear h5f
                rw [hmm] at h5
                have H5 := Lib.hid h5
                have ST5 := Lib.hid (ST.out.trans st5)
                obtain ⟨T5, hT5, _⟩ := h5.left
                have c0 := hT5.c0
                have c1 := hT5.c1
                clear h5 st5 hT5
                go_wp2_with (first | (go_at_call 20; (with_reducible refine (used_is p _ _ c0).mono ?_); rintro e w' ⟨rfl, rfl⟩) | (go_at_call 23; (with_reducible refine (limit_is p _ _ c1).mono ?_); rintro e w' ⟨rfl, rfl⟩))
                go_roundw
                case rel => exact ⟨k + 1, uu + max z 0, by omega, by go_num, rfl, by omega, by omega, S5, H5.out, ST5.out⟩
                case measure => simp [intOf]; omega
              · have hgd : decide (max z 0 ≤ 1 + max m 0 % 500 - uu) = false := decide_eq_false hg
                go_wp2_with fail
                with_reducible refine ((take_no p uu (1 + max m 0 % 500) (max z 0) (by omega) (by omega) (by omega) (by omega) (by omega)).frame ((Lcl.row _ _ _ _).sep (Lcl.blk _ _ _)) _ _ HS.out).mono ?_
                rintro e w5 ⟨S5, h5f, st5⟩
                obtain ⟨rfl, h5⟩ := Sep.fact h5f
                clear h5f
                have H5 := Lib.hid h5
                have ST5 := Lib.hid (ST.out.trans st5)
                obtain ⟨T5, hT5, _⟩ := h5.left
                have c0 := hT5.c0
                have c1 := hT5.c1
                clear h5 st5 hT5
                go_wp2_with (first | (go_at_call 20; (with_reducible refine (used_is p _ _ c0).mono ?_); rintro e w' ⟨rfl, rfl⟩) | (go_at_call 23; (with_reducible refine (limit_is p _ _ c1).mono ?_); rintro e w' ⟨rfl, rfl⟩))
                go_roundw
                case rel => exact ⟨k + 1, uu, by omega, by go_num, rfl, by omega, by omega, S5, H5.out, ST5.out⟩
                case measure => simp [intOf]; omega
            · have hkk : k = ys.length := by omega
              go_wp2_with fail
              go_roundw
              case rel => exact ⟨2, by omega, rfl, by obtain ⟨T, h1, h2⟩ := HS.out.second.drop; obtain ⟨T2, h3, h4⟩ := h1.drop; exact ⟨T2, h3, ST.out.less (fun x q => h2 x (h4 x q))⟩⟩
              case measure => simp [intOf]
    · go_wp2_with fail
      go_ret
      exact ⟨rfl, ST.out.keep.below (Nat.le_refl _) (fun _ _ x => x)⟩

set_option maxHeartbeats 1000000 in
theorem takes_long (m : Int) (A1 : Option Addr) (c1 : Nat) (xs : List Int) (A2 : Option Addr) (c2 : Nat) (ys : List Int) (w : World) (h : 60 < xs.length ∨ 60 < ys.length) (h1 : xs.length ≤ 9223372036854775807) (h2 : ys.length ≤ 9223372036854775807) :
    Calls Try.prog 6 #[.int .i64 m, .slice A1 xs.length c1, .slice A2 ys.length c2] w fun e w' => e = .returned (.bool true) ∧ Below w.heap.size w w' := by
  have hem : Emp w (fun _ => False) := fun _ x => x
  have HE := Lib.hid hem
  clear hem
  by_cases hx : 60 < xs.length
  · have g1 : decide (60 < (xs.length : Int)) = true := decide_eq_true (by omega)
    clear h hx
    go_enter Try.func6, Try.ntmps6
    go_wp2_with fail
    refine (awake_tri _ _ HE.out).mono ?_
    rintro e w1 ⟨S1, ⟨rfl, h1⟩, st1⟩
    have ST1 := Lib.hid st1
    clear h1 st1
    go_wp2_with fail
    go_ret
    exact ⟨rfl, ST1.out.keep.below (Nat.le_refl _) (fun _ _ x => x)⟩
  · have g1 : decide (60 < (xs.length : Int)) = false := decide_eq_false (by omega)
    have g2 : decide (60 < (ys.length : Int)) = true := decide_eq_true (by omega)
    clear h hx
    go_enter Try.func6, Try.ntmps6
    go_wp2_with fail
    refine (awake_tri _ _ HE.out).mono ?_
    rintro e w1 ⟨S1, ⟨rfl, h1⟩, st1⟩
    have ST1 := Lib.hid st1
    clear h1 st1
    go_wp2_with fail
    go_ret
    exact ⟨rfl, ST1.out.keep.below (Nat.le_refl _) (fun _ _ x => x)⟩

theorem takes_law (m : Int) (A1 : Option Addr) (c1 : Nat) (xs : List Int) (A2 : Option Addr) (c2 : Nat) (ys : List Int) (w : World) (wm : (Lit.int .i64 m).wf = true) (r1 : ArgI w .i64 A1 c1 xs) (r2 : ArgI w .u8 A2 c2 ys) :
    Calls Try.prog 6 #[.int .i64 m, .slice A1 xs.length c1, .slice A2 ys.length c2] w fun e w' => e = .returned (.bool true) ∧ Below w.heap.size w w' := by
  have b1 := r1.cap
  have b2 := r2.cap
  have b3 := r1.le
  have b4 := r2.le
  simp only [maxLen] at b1 b2
  by_cases h : 60 < xs.length ∨ 60 < ys.length
  · exact takes_long m A1 c1 xs A2 c2 ys w h (by omega) (by omega)
  · exact takes_calls m A1 c1 xs A2 c2 ys w (wf_i64 wm).1 (wf_i64 wm).2 r1 (by omega) r2 (by omega)

end Go.Proofs.Ythemincohmgihaa.Meter
