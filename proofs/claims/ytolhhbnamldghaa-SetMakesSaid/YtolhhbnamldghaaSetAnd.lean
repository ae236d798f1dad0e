/- And: what is in both of two rising rows; the fixed fact of chapter 11. -/
import Derived.Test.YtolhhbnamldghaaSetM
namespace Go.Proofs.Ytolhhbnamldghaa.Set
open Go.RowKit Go.Proofs.Ytolhhbnamldghaa.Own Go.Proofs.Ytolhhbnamldghaa.Rely
attribute [local go_sem] max_ints min_ints

theorem andL_step {s o : List Int} {k : Nat} (hk : k < s.length) : andL (s.take (k + 1)) o = if o.contains (s.getD k 0) then andL (s.take k) o ++ [s.getD k 0] else andL (s.take k) o := by
  have : s.take (k + 1) = s.take k ++ [s.getD k 0] := by
    rw [List.take_succ_eq_append_getElem hk]; simp [List.getD_eq_getElem?_getD, List.getElem?_eq_getElem hk]
  unfold andL
  rw [this, List.filter_append]
  by_cases h : o.contains (s.getD k 0) = true
  · rw [if_pos h]; congr 1; rw [List.filter_cons_of_pos h]; rfl
  · rw [if_neg h]; rw [List.filter_cons_of_neg h]; simp

theorem andL_rest {s o : List Int} {k : Nat} (h : ∀ i, k ≤ i → i < s.length → o.contains (s.getD i 0) = false) : andL (s.take k) o = andL s o := by
  have e : andL s o = andL (s.take k) o ++ andL (s.drop k) o := by unfold andL; rw [← List.filter_append, List.take_append_drop]
  have e2 : andL (s.drop k) o = [] := by
    unfold andL
    rw [List.filter_eq_nil_iff]
    intro x hx
    obtain ⟨i, hi, rfl⟩ := List.mem_iff_getElem.1 hx
    rw [List.length_drop] at hi
    have := h (k + i) (by omega) (by omega)
    rw [List.getElem_drop]
    simp only [List.getD_eq_getElem?_getD, List.getElem?_eq_getElem (show k + i < s.length by omega), Option.getD_some] at this
    simpa using this
  rw [e, e2, List.append_nil]
theorem reads_tail {w : World} {k : IntKind} {b o : Nat} {x : Int} {xs : List Int} (h : Reads w k (some ⟨b, o, none⟩) (x :: xs)) {d : Nat} (hd : (x :: xs).length ≤ d) : Reads w k (if d = 1 then some ⟨b, o, none⟩ else some ⟨b, o + 1, none⟩) xs := by
  intro i hi
  obtain ⟨b', o', e, h1, h2⟩ := h (i + 1) (by simp; omega)
  injection e with e
  injection e with e1 e2 _
  subst e1 e2
  rw [List.length_cons] at hd
  rw [if_neg (by omega)]
  exact ⟨b, o + 1, rfl, h1, by rw [Nat.add_assoc, Nat.add_comm 1 i]; simpa using h2⟩
/-- What has been left behind is below all that is to come. -/
def Past (s P : List Int) (k : Nat) : Prop := ∀ x ∈ P, ∀ i, k ≤ i → i < s.length → x < s.getD i 0
theorem past_next {s P : List Int} {k : Nat} (h : Past s P k) : Past s P (k + 1) := fun x hx i hi => h x hx i (by omega)
theorem past_snoc {s P : List Int} {k : Nat} (hs : Asc s) (h : Past s P k) {y : Int} (hk : k < s.length) (hy : y < s.getD k 0) : Past s (P ++ [y]) k := by
  intro x hx i hi hl
  rcases List.mem_append.1 hx with hx | hx
  · exact h x hx i hi hl
  · obtain rfl := List.mem_singleton.1 hx
    by_cases hik : i = k
    · subst hik; exact hy
    · exact Int.lt_trans hy (asc_getD hs (by omega) hl)
theorem past_not {s P T : List Int} {k i : Nat} (h : Past s P k) (hi : k ≤ i) (hl : i < s.length) (hT : ∀ y ∈ T, s.getD i 0 < y) : (P ++ T).contains (s.getD i 0) = false := by
  rw [Bool.eq_false_iff]
  intro hc
  have hm : s.getD i 0 ∈ P ++ T := by simpa using hc
  rcases List.mem_append.1 hm with hm | hm
  · have := h _ hm i hi hl; omega
  · have := hT _ hm; omega

def lenV : Value → Nat
  | .slice _ n _ => n
  | _ => 0
set_option maxHeartbeats 4000000 in
set_option maxRecDepth 20000 in
theorem and_c (A B : Option Addr) (c d : Nat) (s o : List Int) (w : World) (hr : Reads w .u32 A s) (hr' : Reads w .u32 B o) (hl : s.length ≤ 1000000) (hl' : o.length ≤ 1000000) (hd : o.length ≤ d) (hs : Asc s) (ho : Asc o) :
    Calls Try.prog 31 #[.slice A s.length c, .slice B o.length d] w fun e w' => ∃ A' c' S', e = .returned (.slice A' (andL s o).length c') ∧ Row 26 .u32 (.slice A' (andL s o).length c') (andL s o) w' S' ∧ Step (fun _ => False) S' w w' := by
  have HR := Lib.hid hr
  have HR' := Lib.hid hr'
  have HS := Lib.hid hs
  have HO := Lib.hid ho
  have HRN := Lib.hid (Row.nil 26 .u32 w)
  clear hr hr' hs ho
  go_enter Try.func31, Try.ntmps31
  go_wp2_with fail
  apply wp_scope_straight
  go_wp2_with fail
  apply wp_label
  go_wp2_with fail
  go_loopw [1, 5, 10] (fun t v i wr => ∃ (k : Nat) (P T : List Int) (B' : Option Addr) (d' : Nat) (An : Option Addr) (cn : Nat) (S' : Nat → Prop), k ≤ s.length ∧ i = .int .i64 k ∧ o = P ++ T ∧ Past s P k ∧ t = .slice B' T.length d' ∧ T.length ≤ d' ∧ Reads w .u32 B' T ∧ v = .slice An (andL (s.take k) o).length cn ∧ Row 26 .u32 (.slice An (andL (s.take k) o).length cn) (andL (s.take k) o) wr S' ∧ Step (fun _ => False) S' w wr) (fun _ _ i _ => s.length - (intOf i).toNat)
  case atStart => exact ⟨0, [], o, B, d, none, 0, _, by omega, rfl, rfl, (show Past s [] 0 from fun x hx => absurd hx (by simp)), rfl, hd, HR'.out, rfl, HRN.out, ⟨Keep.refl _ _, fun _ q => .inl q⟩⟩
  case round =>
    obtain ⟨k, P, T, B', d', An, cn, S', hk, rfl, rfl, hpast, rfl, hTd, hrT, rfl, hw, hst⟩ := hrel
    have HW := Lib.hid hw
    have ST := Lib.hid hst
    have HRT := Lib.hid hrT
    have HP := Lib.hid hpast
    clear hw hst hrT hpast
    by_cases hlt : k < s.length
    · obtain ⟨b, o', rfl, hblt, cx⟩ := (HR.out.later (ST.out.keep.below (Nat.le_refl _) (fun _ _ x => x))).at hlt
      have HAS := Lib.hid (andL_step (o := P ++ T) hlt)
      obtain ⟨n, hn⟩ : ∃ n, s.getD k 0 = n := ⟨_, rfl⟩
      have HN := Lib.hid hn
      rw [hn] at cx HAS
      have hk4 : (k : Int) < (s.length : Int) := by omega
      clear hn
      have hTl : T.length ≤ 1000000 := by rw [List.length_append] at hl'; omega
      go_wp2_with fail
      rename_i J0 hJ0
      go_loopw [1, 5] (fun t v w7 => ∃ (P' T' : List Int) (B' : Option Addr) (d' : Nat), v = .slice An (andL (s.take k) (P ++ T)).length cn ∧ P ++ T = P' ++ T' ∧ Past s P' k ∧ t = .slice B' T'.length d' ∧ T'.length ≤ d' ∧ Reads w .u32 B' T' ∧ w7 = wr) (fun t _ _ => lenV t)
      case atStart => exact ⟨P, T, B', d', rfl, rfl, HP.out, rfl, hTd, HRT.out, rfl⟩
      case round =>
        obtain ⟨P2, T2, B2, d2, rfl, hpt, hpast2, rfl, hTd2, hrT2, rfl⟩ := hrel
        have HP2 := Lib.hid hpast2
        have HRT2 := Lib.hid hrT2
        have HPT := Lib.hid hpt
        have hT2l : T2.length ≤ 1000000 := by rw [hpt, List.length_append] at hl'; omega
        clear hpast2 hrT2 hpt
        cases T2 with
        | nil =>
          have hz := past_not HP2.out (Nat.le_refl k) hlt (T := []) (fun y hy => absurd hy (by simp))
          have HREST := Lib.hid (andL_rest (s := s) (o := P ++ T) (k := k) (fun i h1 h2 => by rw [HPT.out]; exact past_not HP2.out h1 h2 (fun y hy => absurd hy (by simp))))
          clear hz
          go_wp2_with fail
          simp only [Exit.noGoto_ret]
          go_ret
          rw [HREST.out] at HW ⊢
          exact ⟨An, cn, S', rfl, HW.out, ST.out⟩
        | cons y T3 =>
          obtain ⟨b2, o2, rfl, hb2, cy⟩ := (HRT2.out.later (ST.out.keep.below (Nat.le_refl _) (fun _ _ x => x))) 0 (by simp)
          rw [Nat.add_zero, show (y :: T3).getD 0 0 = y from rfl] at cy
          have HTL := Lib.hid (reads_tail HRT2.out hTd2)
          have htl : (y :: T3).length = T3.length + 1 := List.length_cons
          rcases Int.lt_trichotomy y n with hyn | hyn | hyn
          · have hd1 : decide (y ≤ n) = true := by simp; omega
            have hd2 : (y == n) = false := by rw [beq_eq_false_iff_ne]; omega
            go_wp2_with fail
            refine ⟨⟨P2 ++ [y], T3, _, d2 - 1, rfl, by rw [HPT.out]; simp, past_snoc HS.out HP2.out hlt (by rw [HN.out]; exact hyn), rfl, by omega, HTL.out, trivial⟩, ?_⟩
            show T3.length < (y :: T3).length
            omega
          · subst hyn
            have hd1 : decide (y ≤ y) = true := by simp
            have hin : (P ++ T).contains y = true := by rw [HPT.out]; simp
            have HAS2 := Lib.hid (show andL (s.take (k + 1)) (P ++ T) = andL (s.take k) (P ++ T) ++ [y] by rw [HAS.out, if_pos hin])
            have HPN := Lib.hid (past_next HP2.out)
            have hal : (andL (s.take k) (P ++ T)).length ≤ 1000000 := by
              have h1 : (andL (s.take k) (P ++ T)).length ≤ (s.take k).length := List.length_filter_le _ _
              rw [List.length_take] at h1
              omega
            clear hin
            generalize andL (s.take k) (P ++ T) = X at HW HAS2 hal ⊢
            go_wp2_with (at_builtin; refine append_lit _ 26 rfl _ _ 25 rfl .u32 4 Try.underlying25 info_u32 (by decide) _ X [y] 1 1 rfl rfl rfl rfl Lcl.emp (Sep.emp_right HW.out) (by simp; omega) ?_; intro A' c' w' S2 h' st'; have H' := Lib.hid (Sep.left_of_emp h'); have ST' := Lib.hid (ST.out.trans st'); clear h' st')
            refine ⟨⟨k + 1, P2, y :: T3, _, d2, A', c', S2, by omega, by go_num, HPT.out, HPN.out, rfl, hTd2, HRT2.out, by rw [HAS2.out, List.length_append]; rfl, by rw [HAS2.out, List.length_append]; exact H'.out, ST'.out⟩, by simp [intOf]; omega⟩
          · have hd1 : decide (y ≤ n) = false := by simp; omega
            have hnot : (P ++ T).contains n = false := by
              rw [HPT.out, ← HN.out]
              refine past_not HP2.out (Nat.le_refl k) hlt (fun z hz => ?_)
              rw [HN.out]
              rcases List.mem_cons.1 hz with rfl | hz
              · exact hyn
              · have h1 := HO.out
                rw [HPT.out, Asc, List.pairwise_append, List.pairwise_cons] at h1
                exact Int.lt_trans hyn (h1.2.1.1 z hz)
            have HAS2 := Lib.hid (show andL (s.take (k + 1)) (P ++ T) = andL (s.take k) (P ++ T) by rw [HAS.out, hnot, if_neg (by decide)])
            have HPN := Lib.hid (past_next HP2.out)
            clear hnot
            go_wp2_with fail
            refine ⟨⟨k + 1, P2, y :: T3, _, d2, An, cn, S', by omega, by go_num, HPT.out, HPN.out, rfl, hTd2, HRT2.out, by rw [HAS2.out], by rw [HAS2.out]; exact HW.out, ST.out⟩, by simp [intOf]; omega⟩
    · obtain rfl : k = s.length := by omega
      rw [List.take_length] at HW ⊢
      go_wp2_with fail
      try simp only [Exit.noGoto_ret]
      go_ret
      exact ⟨An, cn, S', rfl, HW.out, ST.out⟩

theorem of313 : ofL [] [3, 1, 3] = some [1, 3] := by decide +kernel
set_option maxHeartbeats 2000000 in
theorem awake11 (w : World) : Calls Try.prog 13 #[] w fun e w' => e = .returned (.bool true) ∧ Below w.heap.size w w' := by
  go_enter Try.func13, Try.ntmps13
  go_wp2_with fail
  have hR := (Row.lit 26 .u32 [3, 1, 3] w (by decide)).readsAt
  have hb1 : Ext w (w.alloc (.cells #[.int .u32 3, .int .u32 1, .int .u32 3] 26)) := (Below.refl _ _).alloc (Nat.le_refl _) _
  have HB1 := Lib.hid hb1
  clear hb1
  refine (of_c (some ⟨w.heap.size, 0, none⟩) 3 [3, 1, 3] _ hR (by decide) _ of313).mono ?_
  rintro e w2 ⟨A, c, S', rfl, hrow, hst⟩
  obtain ⟨g, rfl⟩ := row_some hrow (by decide)
  have c0 := (row_at hrow 0 (by decide)).1
  have c1 := (row_at hrow 1 (by decide)).1
  have HB := Lib.hid (Ext.trans _ _ _ HB1.out (show Ext _ w2 from hst.keep.below (Nat.le_refl _) (fun _ _ x => x)))
  rw [show ([1, 3] : List Int).getD 0 0 = 1 from rfl] at c0
  rw [show ([1, 3] : List Int).getD 1 0 = 3 from rfl] at c1
  clear hrow hst
  go_wp2_with fail
  go_ret
  exact ⟨rfl, HB.out⟩
/-- The same as a row in the printed words' sense. -/
theorem of_own {w w' : World} {s : List Int} {A : Option Addr} {c : Nat} {S' : Nat → Prop} (hrow : Row 26 .u32 (.slice A s.length c) s w' S') (hst : Step (fun _ => False) S' w w') : w'.ownsRow w.heap.size 26 1 (.slice A s.length c) s.length (s.map (Value.int .u32)) := by
  refine ⟨hrow.1.1, ?_⟩
  rcases hrow.1.2 with hn | ⟨g, cap, cur, e, _, rest⟩
  · exact .inl hn
  · refine .inr ⟨g, cap, cur, e, ?_, rest⟩
    refine (hst.fresh g ((hrow.2 g).2 ?_)).resolve_left id
    rw [e]; rfl
end Go.Proofs.Ytolhhbnamldghaa.Set
