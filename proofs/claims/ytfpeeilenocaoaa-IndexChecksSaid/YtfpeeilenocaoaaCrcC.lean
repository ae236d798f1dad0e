/- Sums of 32 bits: bytes with their sum; whether they end with it; the document's. -/
import Derived.Test.YtfpeeilenocaoaaCrcB
namespace Go.Proofs.Ytfpeeilenocaoaa.Crc
open Go.RowKit Go.Proofs.Ytfpeeilenocaoaa.Own Go.Proofs.Ytfpeeilenocaoaa.Rely

/-- A word's bytes, the lowest first. -/
def wd (n : Nat) : List Int := [((n % 256 : Nat) : Int), ((n / 256 % 256 : Nat) : Int), ((n / 65536 % 256 : Nat) : Int), ((n / 16777216 % 256 : Nat) : Int)]
theorem wd_bytes (n : Nat) : IsBytes (wd n) := by
  intro x hx
  simp only [wd, List.mem_cons, List.not_mem_nil, or_false] at hx
  rcases hx with rfl | rfl | rfl | rfl <;> omega

set_option maxHeartbeats 2000000 in
set_option maxRecDepth 20000 in
theorem put_calls (w : World) (A : Option Addr) (c : Nat) (xs : List Int) (hr : Reads w .u8 A xs) (hb : IsBytes xs) (hl : xs.length ≤ 1000000) :
    Calls Try.prog 32 #[.slice A xs.length c] w fun e w' => ∃ A' c' S', e = .returned (.slice A' (xs.length + 4) c') ∧ Row 5 .u8 (.slice A' (xs.length + 4) c') (xs ++ wd (sum xs).toNat) w' S' ∧ Step (fun _ => False) S' w w' := by
  have HR := Lib.hid hr
  have hs := sum_calls w A c xs hr hb (by omega)
  obtain ⟨n, hn⟩ : ∃ n, (sum xs).toNat = n := ⟨_, rfl⟩
  rw [hn] at hs ⊢
  have HS := Lib.hid hs
  clear hr hs hn
  go_enter Try.func32, Try.ntmps32
  go_wp2_with fail
  refine HS.out.mono ?_
  rintro e w1 ⟨rfl, hb1⟩
  have he := sepEmpty Lcl.emp (w := w1) (S := fun _ => False) (fun _ x => x) 5 .u8
  have HE := Lib.hid he
  have HR1 := Lib.hid ((HR.out.later hb1).later (w' := w1.alloc (.cells #[] 5)) ((Below.refl _ _).alloc (Nat.le_refl _) _))
  have ST := Lib.hid (show Step (fun _ => False) (fun _ => False) w w1 from ⟨.of_below hb1, fun _ x => x.elim⟩)
  clear he hb1
  go_wp2_with (first
    | (at_builtin; refine append_row _ rfl _ _ 22 rfl 5 .u8 1 Try.underlying22 info_u8 (by decide) _ [] xs A xs.length c rfl rfl rfl Lcl.emp HE.out.1 HR1.out (by simp; omega) ?_; intro A' c' w' S' h' st'; simp only [List.length_nil, Nat.zero_add, List.nil_append] at h' ⊢; have H' := Lib.hid h'; have ST' := Lib.hid (ST.out.trans (HE.out.2.trans st')); clear h' st')
    | (at_builtin; refine append_lit _ 5 rfl _ _ 22 rfl .u8 1 Try.underlying22 info_u8 (by decide) _ xs (wd n) 4 4 rfl rfl rfl rfl Lcl.emp H'.out (by simp [wd]; omega) ?_; intro A2 c2 w2 S2 h2 st2; have H2 := Lib.hid h2; have ST2 := Lib.hid (ST'.out.trans st2); clear h2 st2))
  go_ret
  exact ⟨A2, c2, S2, rfl, H2.out.left_of_emp, ST2.out⟩

set_option maxHeartbeats 1000000 in
theorem word_calls (w : World) (n : Nat) (hn : U32 n) : Calls Try.prog 18 #[.int .u32 n] w fun e w' => ∃ p, e = .returned (.slice (some ⟨p, 0, none⟩) 4 4) ∧ Row 5 .u8 (.slice (some ⟨p, 0, none⟩) 4 4) (wd n) w' (fun b => b = p) ∧ Below w.heap.size w w' := by
  have h := Row.lit 5 .u8 (wd n) w (by simp [wd])
  have H := Lib.hid (show Row 5 .u8 (.slice (some ⟨w.heap.size, 0, none⟩) 4 4) (wd n) (w.alloc (.cells #[.int .u8 (↑n % 256), .int .u8 (↑n / 256 % 256), .int .u8 (↑n / 65536 % 256), .int .u8 (↑n / 16777216 % 256)] 5)) (fun b => b = w.heap.size) from h)
  have h5 : (n : Int) / 16777216 % 256 = n / 16777216 := by have := hn.lt; omega
  clear h hn
  go_enter Try.func18, Try.ntmps18
  go_wp2_with fail
  go_ret
  rw [h5] at H
  exact ⟨w.heap.size, rfl, H.out, (Below.refl _ _).alloc (Nat.le_refl _) _⟩

/-- Do they end with their sum? -/
def rightB (xs : List Int) : Bool := decide (4 ≤ xs.length ∧ xs.drop (xs.length - 4) = wd (sum (xs.take (xs.length - 4))).toNat)

set_option maxHeartbeats 2000000 in
set_option maxRecDepth 20000 in
theorem right_calls (w : World) (A : Option Addr) (c : Nat) (xs : List Int) (hr : Reads w .u8 A xs) (hb : IsBytes xs) (hl : xs.length ≤ 1000000) (hc : xs.length ≤ c) :
    Calls Try.prog 40 #[.slice A xs.length c] w fun e w' => e = .returned (.bool (rightB xs)) ∧ Below w.heap.size w w' := by
  have HR := Lib.hid hr
  by_cases h4 : xs.length < 4
  · have hf : rightB xs = false := by unfold rightB; rw [decide_eq_false]; omega
    rw [hf]
    go_enter Try.func40, Try.ntmps40
    go_wp2_with fail
    go_ret
    exact ⟨rfl, Below.refl _ _⟩
  · obtain ⟨k, hk⟩ : ∃ k, xs.length = k + 4 := ⟨xs.length - 4, by omega⟩
    have htl : (xs.take k).length = k := by simp; omega
    have hs := sum_calls w A c (xs.take k) (hr.take k) (fun x hx => hb x (List.mem_of_mem_take hx)) (by omega)
    rw [htl] at hs
    have hR : rightB xs = decide (xs.getD k 0 = ((sum (xs.take k)).toNat % 256 : Nat) ∧ xs.getD (k + 1) 0 = ((sum (xs.take k)).toNat / 256 % 256 : Nat) ∧ xs.getD (k + 2) 0 = ((sum (xs.take k)).toNat / 65536 % 256 : Nat) ∧ xs.getD (k + 3) 0 = ((sum (xs.take k)).toNat / 16777216 % 256 : Nat)) := by
      unfold rightB
      rw [show xs.length - 4 = k by omega]
      have hd : xs.drop k = [xs.getD k 0, xs.getD (k + 1) 0, xs.getD (k + 2) 0, xs.getD (k + 3) 0] := by
        apply List.ext_getElem
        · simp; omega
        · intro i h1 h2
          simp only [List.length_cons, List.length_nil] at h2
          rw [List.getElem_drop]
          match i, h2 with
          | 0, _ | 1, _ | 2, _ | 3, _ => simp [List.getD_eq_getElem?_getD, List.getElem?_eq_getElem (show k < xs.length by omega), List.getElem?_eq_getElem (show k + 1 < xs.length by omega), List.getElem?_eq_getElem (show k + 2 < xs.length by omega), List.getElem?_eq_getElem (show k + 3 < xs.length by omega)]
      rw [hd]
      congr 1
      simp only [wd, List.cons.injEq, and_true, eq_iff_iff]
      exact ⟨fun h => h.2, fun h => ⟨by omega, h⟩⟩
    obtain ⟨n, hn⟩ : ∃ n, (sum (xs.take k)).toNat = n := ⟨_, rfl⟩
    have hnl : n < 4294967296 := by rw [← hn]; exact (sum (xs.take k)).isLt
    rw [hn] at hs hR
    rw [hR]
    obtain ⟨b, o, rfl, hb0, c0⟩ := hr.at (show k < xs.length by omega)
    have at' : ∀ i, i < 4 → w.cell? ⟨b, o + (k + i), none⟩ = some (.int .u8 (xs.getD (k + i) 0)) := by
      intro i hi
      obtain ⟨b', o', q, _, hc'⟩ := hr (k + i) (by omega)
      injection q with q
      injection q with q1 q2
      subst q1 q2
      exact hc'
    obtain ⟨z0, hz0⟩ : ∃ z, xs.getD k 0 = z := ⟨_, rfl⟩
    obtain ⟨z1, hz1⟩ : ∃ z, xs.getD (k + 1) 0 = z := ⟨_, rfl⟩
    obtain ⟨z2, hz2⟩ : ∃ z, xs.getD (k + 2) 0 = z := ⟨_, rfl⟩
    obtain ⟨z3, hz3⟩ : ∃ z, xs.getD (k + 3) 0 = z := ⟨_, rfl⟩
    have c1 := at' 1 (by omega)
    have c2 := at' 2 (by omega)
    have c3 := at' 3 (by omega)
    rw [hz0] at c0
    rw [hz1] at c1
    rw [hz2] at c2
    rw [hz3] at c3
    rw [hz0, hz1, hz2, hz3]
    have HS := Lib.hid hs
    have C0 := Lib.hid c0
    have C1 := Lib.hid c1
    have C2 := Lib.hid c2
    have C3 := Lib.hid c3
    obtain ⟨m, hm⟩ : ∃ m, m = xs.length := ⟨_, rfl⟩
    have hm4 : m = k + 4 := by omega
    have hk1 : k ≤ 1000000 := by omega
    rw [← hm]
    clear hr hb htl hs hR hn at' hz0 hz1 hz2 hz3 HR c0 c1 c2 c3 hl h4 hk
    rw [← hm] at hc
    clear hm xs
    subst hm4
    have e4 : (n : Int) / 16777216 % 256 = (n : Int) / 16777216 := by omega
    by_cases hD : z0 = (n % 256 : Nat) ∧ z1 = (n / 256 % 256 : Nat) ∧ z2 = (n / 65536 % 256 : Nat) ∧ z3 = (n / 16777216 % 256 : Nat)
    · rw [decide_eq_true hD]
      obtain ⟨e0, e1, e2, e3⟩ := hD
      have e3 : z3 = (n : Int) / 16777216 := by omega
      go_enter Try.func40, Try.ntmps40
      go_wp2_with fail
      refine HS.out.mono ?_
      rintro e w1 ⟨rfl, hb1⟩
      have c0 := (hb1.cell (p := ⟨b, o + k, none⟩) hb0).trans C0.out
      have c1 := (hb1.cell (p := ⟨b, o + (k + 1), none⟩) hb0).trans C1.out
      have c2 := (hb1.cell (p := ⟨b, o + (k + 2), none⟩) hb0).trans C2.out
      have c3 := (hb1.cell (p := ⟨b, o + (k + 3), none⟩) hb0).trans C3.out
      go_wp2_with fail
      go_ret
      exact ⟨by first | rfl | simp, hb1⟩
    · rw [decide_eq_false hD]
      have HD := Lib.hid hD
      clear hD
      by_cases e3 : z3 = (n : Int) / 16777216
      · go_enter Try.func40, Try.ntmps40
        go_wp2_with fail
        refine HS.out.mono ?_
        rintro e w1 ⟨rfl, hb1⟩
        have c0 := (hb1.cell (p := ⟨b, o + k, none⟩) hb0).trans C0.out
        have c1 := (hb1.cell (p := ⟨b, o + (k + 1), none⟩) hb0).trans C1.out
        have c2 := (hb1.cell (p := ⟨b, o + (k + 2), none⟩) hb0).trans C2.out
        have c3 := (hb1.cell (p := ⟨b, o + (k + 3), none⟩) hb0).trans C3.out
        go_wp2_with fail
        all_goals first
          | (exfalso; exact HD.out (by omega))
          | (go_ret; exact ⟨by first | rfl | simp, hb1⟩)
      · have e5 : (z3 == (n : Int) / 16777216) = false := by simpa using e3
        go_enter Try.func40, Try.ntmps40
        go_wp2_with fail
        refine HS.out.mono ?_
        rintro e w1 ⟨rfl, hb1⟩
        have c0 := (hb1.cell (p := ⟨b, o + k, none⟩) hb0).trans C0.out
        have c1 := (hb1.cell (p := ⟨b, o + (k + 1), none⟩) hb0).trans C1.out
        have c2 := (hb1.cell (p := ⟨b, o + (k + 2), none⟩) hb0).trans C2.out
        have c3 := (hb1.cell (p := ⟨b, o + (k + 3), none⟩) hb0).trans C3.out
        go_wp2_with fail
        all_goals (go_ret; exact ⟨by first | rfl | simp, hb1⟩)

theorem size_str (xs : List Int) : (strOfNums xs).size = xs.length := by
  show (strOfNums xs).data.size = _
  simp [strOfNums]
/-- A fresh row of bytes. -/
def Fresh (xs : List Int) (v : Value) (w : World) : Prop := ∃ A c, v = .slice A xs.length c ∧ Reads w .u8 A xs
theorem fresh_ext {xs : List Int} : ∀ (v : Value) (w w' : World), Fresh xs v w → Ext w w' → Fresh xs v w' := by
  rintro v w w' ⟨A, c, rfl, hr⟩ h
  exact ⟨A, c, rfl, h.reads hr⟩

set_option maxHeartbeats 2000000 in
set_option maxRecDepth 20000 in
theorem summed_calls (w : World) (A : Option Addr) (c : Nat) (xs : List Int) (hr : Reads w .u8 A xs) (hb : IsBytes xs) (hl : xs.length ≤ 1000000) :
    Calls Try.prog 19 #[.slice A xs.length c] w fun e w' => e = .returned (.string (strOfNums xs ++ strOfNums (wd (sum xs).toNat))) ∧ Below w.heap.size w w' := by
  have HR := Lib.hid hr
  have HB := Lib.hid hb
  have HU := Lib.hid (show U32 (sum xs).toNat from (sum xs).isLt)
  obtain ⟨n, hn⟩ : ∃ n, (sum xs).toNat = n := ⟨_, rfl⟩
  have HN := Lib.hid hn
  rw [hn] at HU ⊢
  clear hr hb hn
  go_enter Try.func19, Try.ntmps19
  go_wp2_with fail
  refine wp_region_rely (by kernel_rfl) Ext Ext.refl Ext.trans [[(0, none)], [(3, some 0)], [(0, none)], [(5, some 2)], [(6, some 3)], [(7, some 4)], [(4, some 1), (8, some 5)], [(9, some 6)]] [some 3, some 4, some 5, some 6, some 7, some 8, some 9, some 2] (by kernel_rfl) (by kernel_rfl) ?_
  -- 0: slot 3 := Op.move t0
  apply rely_const; case h => (intro wr hR a h0 K hK; go_wp2_with fail; exact Ext.refl _)
  -- 1: slot 4 := Op.convert 34 9 t3
  apply rely_const
  case h =>
    intro wr hR a h3 K hK
    have hcv := (hR.undrew.reads HR.out).string (P := Try.prog) Try.underlying22 Try.underlying5 Try.underlying9 c
    go_wp2_with fail
    exact Ext.refl _
  -- 2: slot 5 := Op.move t0
  apply rely_const; case h => (intro wr hR a h0 K hK; go_wp2_with fail; exact Ext.refl _)
  -- 3: slot 6 := the sum
  apply rely_const
  case h =>
    intro wr hR a h5 K hK
    have hs := refsum_calls wr A c xs (hR.undrew.reads HR.out) HB.out hl
    rw [HN.out] at hs
    go_wp2_with fail
    refine hs.mono ?_
    rintro e w2 ⟨rfl, hb⟩
    go_wp2_with fail
    exact hb
  -- 4: slot 7 := its bytes
  refine rely_rel (Fresh (wd n)) fresh_ext ?_ ?_
  · intro wr hR a h6 K hK
    have hs := word_calls wr n HU.out
    have HK := Lib.hid hK
    clear hK
    go_wp2_with fail
    refine hs.mono ?_
    rintro e w2 ⟨p, rfl, hrow, hb⟩
    go_wp2_with fail
    exact HK.out _ _ hb ⟨_, _, rfl, hrow.readsAt⟩
  -- 5: slot 8 := Op.convert 34 9 t7
  apply rely_const
  case h =>
    rintro wr hR a v h7 ⟨A2, c2, rfl, hr2⟩ K hK
    have hcv := hr2.string (P := Try.prog) Try.underlying22 Try.underlying5 Try.underlying9 c2
    go_wp2_with fail
    exact Ext.refl _
  -- 6: slot 9 := Op.binOp BinOp.add 9 t4 t8 9
  apply rely_const
  case h =>
    intro wr hR a h4 h8 K hK
    have z1 := size_str xs
    have z2 : (strOfNums (wd n)).size = 4 := size_str (wd n)
    go_wp2_with fail
    exact Ext.refl _
  -- 7: slot 2 := Op.assign t9
  apply rely_const; case h => (intro wr hR a h9 K hK; go_wp2_with fail; exact Ext.refl _)
  refine rely_end ?_
  intro wr hR
  simp only [ends, Act.put, List.setIfInBounds_toArray, List.set_cons_zero, List.set_cons_succ]
  intro v hv
  go_wp2_with fail
  go_ret
  exact ⟨rfl, hR.undrew⟩

end Go.Proofs.Ytfpeeilenocaoaa.Crc
