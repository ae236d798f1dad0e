/- The law BitsUnary, at every input. -/
import Derived.Test.YtpgnlpcnancplaaBitsU
namespace Go.Proofs.Ytpgnlpcnancplaa.Bits
open Go.RowKit Go.Proofs.Ytpgnlpcnancplaa.Own Go.Proofs.Ytpgnlpcnancplaa.Rely
attribute [local go_sem] max_ints min_ints

/-- Each number as so many ones and a nought. -/
def uB : List Int → List Bool
  | [] => []
  | x :: l => List.replicate x.toNat true ++ [false] ++ uB l
theorem uB_app : ∀ a b : List Int, uB (a ++ b) = uB a ++ uB b
  | [], b => rfl
  | x :: a, b => by simp only [List.cons_append, uB, uB_app a b, List.append_assoc]
theorem uB_len : ∀ l : List Int, (∀ x ∈ l, 0 ≤ x ∧ x ≤ 255) → (uB l).length ≤ 256 * l.length
  | [], _ => by simp [uB]
  | x :: l, h => by
    have h1 := h x List.mem_cons_self
    have h2 := uB_len l fun y hy => h y (List.mem_cons_of_mem _ hy)
    simp only [uB, List.length_append, List.length_replicate, List.length_cons, List.length_nil]
    omega
theorem uB_at (xs : List Int) (k m : Nat) (hk : k < xs.length) (hm : xs.getD k 0 = (m : Int)) :
    uB xs = uB (xs.take k) ++ (List.replicate m true ++ [false] ++ uB (xs.drop (k + 1))) ∧ uB (xs.take (k + 1)) = uB (xs.take k) ++ (List.replicate m true ++ [false]) := by
  have hx : xs[k] = (m : Int) := by rw [← hm, List.getD_eq_getElem?_getD, List.getElem?_eq_getElem hk]; rfl
  have e1 : xs = xs.take k ++ (xs[k] :: xs.drop (k + 1)) := by
    rw [← List.drop_eq_getElem_cons hk, List.take_append_drop]
  have e2 : xs.take (k + 1) = xs.take k ++ [xs[k]] := by rw [List.take_add_one, List.getElem?_eq_getElem hk]; rfl
  constructor
  · conv => lhs; rw [e1]
    rw [uB_app, hx]
    simp only [uB, Int.toNat_natCast]
  · rw [e2, uB_app, hx]
    simp only [uB, Int.toNat_natCast, List.append_nil]
theorem uB_get (xs : List Int) (k m : Nat) (hk : k < xs.length) (hm : xs.getD k 0 = (m : Int)) :
    (∀ i, i < m → (uB xs).getD ((uB (xs.take k)).length + i) false = true) ∧ (uB xs).getD ((uB (xs.take k)).length + m) false = false ∧
      (uB (xs.take (k + 1))).length = (uB (xs.take k)).length + m + 1 ∧ (uB (xs.take k)).length + m < (uB xs).length := by
  obtain ⟨h1, h2⟩ := uB_at xs k m hk hm
  rw [h1, h2]
  generalize uB (xs.take k) = P
  generalize uB (xs.drop (k + 1)) = Q
  refine ⟨fun i hi => ?_, ?_, by simp <;> omega, by simp <;> omega⟩
  · rw [List.getD_eq_getElem?_getD, List.getElem?_append_right (by omega), Nat.add_sub_cancel_left, List.append_assoc, List.getElem?_append_left (by simpa using hi), List.getElem?_replicate, if_pos hi]; rfl
  · rw [List.getD_eq_getElem?_getD, List.getElem?_append_right (by omega), Nat.add_sub_cancel_left, List.append_assoc, List.getElem?_append_right (by simp), List.length_replicate, Nat.sub_self]; rfl

theorem loc_bw_rd (r : Nat) (A : Option Addr) (c : Nat) (B : List Int) (at_ : Nat) (sh : Bool) : Lcl (RD r A c B at_ sh (RdF A B)) := (Lcl.blk _ _ _).sep (loc_rdf _ _)

set_option maxHeartbeats 8000000 in
theorem unary_wf (A : Option Addr) (c : Nat) (xs : List Int) (less : Int) (w : World) (h : ArgI w .u8 A c xs) (hless : (Lit.int .u8 less).wf = true) :
    Calls Try.prog 5 #[.slice A xs.length c, .int .u8 less] w fun e w' => e = .returned (.bool true) ∧ Below w.heap.size w w' := by
  have HR := Lib.hid h.reads
  have HX := Lib.hid (show ∀ x ∈ xs, 0 ≤ x ∧ x ≤ 255 from fun x hx => by
    have h' : (decide (0 ≤ x) && decide (x ≤ 255)) = true := h.rng x hx
    simpa using h')
  have hl' : (decide (0 ≤ less) && decide (less ≤ 255)) = true := hless
  simp only [Bool.and_eq_true, decide_eq_true_eq] at hl'
  have hem : Emp w (fun _ => False) := fun _ x => x
  have HE := Lib.hid hem
  clear h hem hless
  go_enter Try.func5, Try.ntmps5
  go_wp2_with fail
  refine (awake_tri _ _ HE.out).mono ?_
  rintro e w1 ⟨S1, ⟨rfl, h1⟩, st1⟩
  have ST1 := Lib.hid (show Step (fun _ => False) (fun _ => False) w w1 from ⟨st1.keep, fun _ x => x.elim⟩)
  clear h1 st1
  by_cases h30 : 30 < xs.length
  · go_wp2_with fail
    go_ret
    exact ⟨rfl, below_of ST1.out⟩
  have hn : xs.length ≤ 30 := by omega
  have n1 := new_bw Lcl.emp (w := w1) (S := fun _ => False) (fun _ x => x)
  have H2 := Lib.hid (Sep.left_of_emp n1.1)
  have ST2 := Lib.hid (ST1.out.trans n1.2)
  clear n1
  go_wp2_with fail
  generalize w1.alloc (.cells #[.slice none 0 0, .int .i64 0] 36) = w2 at H2 ST2 ⊢
  generalize w1.heap.size = p at H2 ST2 ⊢
  go_loopw [6, 21] (fun v6 v21 wr => ∃ (k : Nat) (S' : Nat → Prop), k ≤ xs.length ∧ v21 = .int .i64 k ∧ v6 = .int .i64 (uB (xs.take k)).length ∧ BW p (uB (xs.take k)) wr S' ∧ Step (fun _ => False) S' w wr) (fun _ v21 _ => xs.length - (intOf v21).toNat)
  case atStart => exact ⟨0, _, by omega, rfl, rfl, H2.out, ST2.out⟩
  case round =>
    clear H2 ST2
    obtain ⟨k, S', hk, rfl, rfl, hw, hst⟩ := hrel
    have HW := Lib.hid hw
    have ST := Lib.hid hst
    clear hw hst
    by_cases hlt : k < xs.length
    · obtain ⟨b, o, rfl, hblt, cx⟩ := (HR.out.later (below_of ST.out)).at hlt
      have hz0 : 0 ≤ xs.getD k 0 ∧ xs.getD k 0 ≤ 255 := HX.out _ (by simp [List.getD_eq_getElem?_getD, List.getElem?_eq_getElem hlt])
      obtain ⟨m, hm⟩ := Int.eq_ofNat_of_zero_le hz0.1
      have hm1 : m ≤ 255 := by omega
      have h2 := (uB_at xs k m hlt hm).2
      have h3 := (uB_get xs k m hlt hm).2.2.1
      have h4 := uB_len (xs.take k) fun x hx => HX.out x (List.mem_of_mem_take hx)
      have h5 : (uB (xs.take k)).length ≤ 7680 := by simp at h4; omega
      have HT := Lib.hid h2
      have HL := Lib.hid h3
      rw [hm] at cx
      clear h2 h3 h4 hz0 hm
      generalize uB (xs.take k) = P at HW HT HL h5 ⊢
      go_wp2_with fail
      refine (unary_tri p P m (by omega) (by omega) (by omega) _ _ HW.out).mono ?_
      rintro e w3 ⟨S3, ⟨rfl, h3⟩, st3⟩
      have H3 := Lib.hid h3
      have ST3 := Lib.hid (ST.out.trans st3)
      clear h3 st3
      go_wp2_with fail
      go_roundw
      case rel =>
        refine ⟨k + 1, S3, by omega, rfl, ?_, ?_, ST3.out⟩
        · rw [HL.out] <;> first | rfl | (congr 1; omega)
        · rw [HT.out, ← List.append_assoc]; have := H3.out; rw [Int.toNat_natCast] at this; exact this
      case measure => first | (simp [intOf]; done) | (simp [intOf]; omega)
    · obtain rfl : k = xs.length := by omega
      rw [List.take_length] at HW ⊢
      have hLl := uB_len xs HX.out
      have hL9 : (uB xs).length ≤ 7680 := by omega
      have HU := Lib.hid (fun k m hk hm => uB_get xs k m hk hm)
      obtain ⟨hpb, hpa⟩ := pack_all (uB xs)
      have HPB := Lib.hid (show ∀ x ∈ pack (uB xs), 0 ≤ x ∧ x ≤ 255 from hpb)
      have HPA := Lib.hid hpa
      have hpl := pack_length (uB xs)
      clear hpb hpa hLl
      go_wp2_with fail
      refine (bytes_f p (uB xs) (by omega) _ _ HW.out).mono ?_
      rintro e w3 ⟨A3, c3, rfl, hc3, hb3, S3, h3, st3⟩
      have ST3 := Lib.hid (ST.out.trans st3)
      have n4 := Sep.alloc ((loc_bw _ _).sep (loc_rdf _ _)) h3 #[.slice A3 (pack (uB xs)).length c3, .int .i64 0, .bool false] 78
      have H4 := Lib.hid (n4.1.imp_right fun T hT => hT.comm).assoc'
      have ST4 := Lib.hid (ST3.out.trans n4.2)
      clear n4 h3 st3 hb3 HW ST ST3
      have hgt : (uB xs).length < 8 * (pack (uB xs)).length + 1 := by omega
      have hg8 : 8 * (pack (uB xs)).length < (uB xs).length + 8 := by omega
      clear hpl
      generalize hL : uB xs = L at *
      have HLE := Lib.hid hL
      clear hL
      go_wp2_with fail
      refine (read_is A3 (pack L).length c3 w3).mono ?_
      rintro e w4 ⟨rfl, rfl⟩
      generalize w3.alloc (.cells #[.slice A3 (pack L).length c3, .int .i64 0, .bool false] 78) = w4 at H4 ST4 ⊢
      generalize w3.heap.size = r at H4 ST4 ⊢
      have hBl : (pack L).length ≤ 1000000000 := by omega
      generalize hB : pack L = B at *
      clear hB
      go_wp2_with fail
      go_loopw [40] (fun v40 wr => ∃ (k : Nat) (S' : Nat → Prop), k ≤ xs.length ∧ v40 = .int .i64 k ∧ Sep (RD r A3 c3 B (uB (xs.take k)).length false (RdF A3 B)) (BW p L) wr S' ∧ Step (fun _ => False) S' w wr) (fun v40 _ => xs.length - (intOf v40).toNat)
      case atStart => exact ⟨0, _, by omega, rfl, H4.out, ST4.out⟩
      case round =>
        clear H4 ST4
        obtain ⟨k, S', hk, rfl, hw, hst⟩ := hrel
        have HW := Lib.hid hw
        have ST := Lib.hid hst
        clear hw hst
        have hrd : ∀ w S, RdF A3 B w S → Reads w .u8 A3 B := fun _ _ x => x.1
        have HRD := Lib.hid hrd
        clear hrd
        by_cases hlt : k < xs.length
        · obtain ⟨b, o, rfl, hblt, cx⟩ := (HR.out.later (below_of ST.out)).at hlt
          have hz0 : 0 ≤ xs.getD k 0 ∧ xs.getD k 0 ≤ 255 := HX.out _ (by simp [List.getD_eq_getElem?_getD, List.getElem?_eq_getElem hlt])
          obtain ⟨m, hm⟩ := Int.eq_ofNat_of_zero_le hz0.1
          have hm1 : m ≤ 255 := by omega
          obtain ⟨g1, g2, g3, g4⟩ := HU.out k m hlt hm
          rw [hm] at cx
          clear hz0 hm
          generalize hat : (uB (xs.take k)).length = at_ at HW g1 g2 g3 g4
          clear hat
          have G1 := Lib.hid (show Ones B at_ m from fun i hi => by rw [HPA.out]; exact g1 i hi)
          have G2 := Lib.hid (show bitAt B (at_ + m) = false by rw [HPA.out]; exact g2)
          have G3 := Lib.hid g3
          clear g1 g2 g3
          by_cases hcase : (k : Int) = less ∧ 0 < m
          · obtain ⟨q, rfl⟩ : ∃ q, m = q + 1 := ⟨m - 1, by omega⟩
            have hk1 : ((k : Int) == less) = true := by rw [beq_iff_eq]; exact hcase.1
            have hm0 : decide ((0 : Int) < ((q : Int) + 1)) = true := by simp <;> omega
            have HBAD := Lib.hid ((unary_bad r A3 c3 B at_ q (RdF A3 B) (loc_rdf _ _) HRD.out HPB.out hBl (by omega) G1.out).frame (loc_bw p L))
            clear hcase
            go_wp2_with fail
            refine (HBAD.out _ _ HW.out).mono ?_
            rintro e w5 ⟨S5, hf, st5⟩
            obtain ⟨rfl, h5⟩ := Sep.fact hf
            have H5 := Lib.hid h5
            have ST5 := Lib.hid (ST.out.trans st5)
            obtain ⟨T5, hT5, _⟩ := h5.left
            obtain ⟨T6, hT6, _⟩ := h5.comm.left
            have HT5 := Lib.hid hT5
            have HT6 := Lib.hid hT6
            clear hf h5 st5 hT5 hT6
            go_wp2_with fail
            refine (short_is r A3 c3 B _ true _ w5 _ HT5.out).mono ?_
            rintro e w6 ⟨rfl, rfl⟩
            go_wp2_with fail
            refine (len_is p L _ _ HT6.out).mono ?_
            rintro e w7 ⟨rfl, rfl⟩
            go_wp2_with fail
            go_ret
            exact ⟨rfl, below_of ST5.out⟩
          · have HOK := Lib.hid ((unary_ok r A3 c3 B at_ m m (RdF A3 B) (loc_rdf _ _) HRD.out HPB.out hBl (by omega) G1.out G2.out (Int.le_refl _)).frame (loc_bw p L))
            by_cases hk1 : (k : Int) = less
            · have hk2 : ((k : Int) == less) = true := by rw [beq_iff_eq]; exact hk1
              obtain rfl : m = 0 := by omega
              clear hcase hk1
              go_wp2_with fail
              refine (HOK.out _ _ HW.out).mono ?_
              rintro e w5 ⟨S5, hf, st5⟩
              obtain ⟨rfl, h5⟩ := Sep.fact hf
              have H5 := Lib.hid h5
              have ST5 := Lib.hid (ST.out.trans st5)
              clear hf h5 st5
              go_wp2_with fail
              go_roundw
              case rel => exact ⟨k + 1, S5, by omega, rfl, by rw [G3.out]; exact H5.out, ST5.out⟩
              case measure => first | (simp [intOf]; done) | (simp [intOf]; omega)
            · have hk2 : ((k : Int) == less) = false := by rw [beq_eq_false_iff_ne]; exact hk1
              clear hcase hk1
              go_wp2_with fail
              refine (HOK.out _ _ HW.out).mono ?_
              rintro e w5 ⟨S5, hf, st5⟩
              obtain ⟨rfl, h5⟩ := Sep.fact hf
              have H5 := Lib.hid h5
              have ST5 := Lib.hid (ST.out.trans st5)
              clear hf h5 st5
              go_wp2_with fail
              go_roundw
              case rel => exact ⟨k + 1, S5, by omega, rfl, by rw [G3.out]; exact H5.out, ST5.out⟩
              case measure => first | (simp [intOf]; done) | (simp [intOf]; omega)
        · obtain rfl : k = xs.length := by omega
          rw [List.take_length, HLE.out] at HW
          have HUN := Lib.hid ((unary_tri p L (-5) (by omega) (by omega) (by omega)).frame ((loc_bw_rd r A3 c3 B L.length false)))
          go_wp2_with fail
          refine (HUN.out _ _ HW.out.comm).mono ?_
          rintro e w5 ⟨S5, hf, st5⟩
          obtain ⟨rfl, h5⟩ := Sep.fact hf
          have h5' : Sep (BW p (L ++ [false])) (RD r A3 c3 B L.length false (RdF A3 B)) w5 S5 := by
            have e : L ++ List.replicate (-5 : Int).toNat true ++ [false] = L ++ [false] := by simp
            rw [e] at h5; exact h5
          have ST5 := Lib.hid (ST.out.trans st5)
          obtain ⟨T5, hT5, _⟩ := h5'.left
          obtain ⟨T6, hT6, _⟩ := h5'.comm.left
          have HT5 := Lib.hid hT5
          have HT6 := Lib.hid hT6
          clear hf h5 h5' st5 hT5 hT6
          go_wp2_with fail
          refine (end_ok r A3 c3 B L.length (RdF A3 B) HRD.out HPB.out hBl (by omega) (by omega) (fun i hi => by rw [HPA.out, List.getD_eq_getElem?_getD, List.getElem?_eq_none hi]; rfl) w5 _ HT6.out).mono ?_
          rintro e w6 ⟨rfl, nq, rfl⟩
          have HT7 := Lib.hid (drewN_of (loc_bw _ _) HT5.out nq)
          have hlen : (L ++ [false]).length = L.length + 1 := by simp
          go_wp2_with fail
          refine (len_is p (L ++ [false]) _ _ HT7.out).mono ?_
          rintro e w7 ⟨rfl, rfl⟩
          go_wp2_with fail
          go_ret
          exact ⟨rfl, below_of (ST5.out.drewN nq)⟩
end Go.Proofs.Ytpgnlpcnancplaa.Bits
