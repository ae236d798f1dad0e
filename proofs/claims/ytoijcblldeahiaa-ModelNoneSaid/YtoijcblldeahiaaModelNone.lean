/- P7.1, P1: any numbers of symbols, symbols, places that there aren't; a nil one: at every input, without conditions. -/
import Derived.Test.YtoijcblldeahiaaModel
namespace Go.Proofs.Ytoijcblldeahiaa.Model
open Go.RowKit Go.Proofs.Ytoijcblldeahiaa.Own Go.Proofs.Ytoijcblldeahiaa.Rely
attribute [local go_sem] max_ints min_ints

set_option maxHeartbeats 8000000 in
set_option maxRecDepth 20000 in
theorem none_wf (many symbol place : Int) (w : World) (h1 : (Lit.int .i64 many).wf = true) (h2 : (Lit.int .i64 symbol).wf = true) (h3 : (Lit.int .i64 place).wf = true) :
    Calls Try.prog 4 #[.int .i64 many, .int .i64 symbol, .int .i64 place] w fun e w' => e = .returned (.bool true) ∧ Below w.heap.size w w' := by
  clear h1 h2 h3
  go_enter Try.func4, Try.ntmps4
  go_wp2_with fail
  refine (awake7 w).mono ?_
  rintro e w1 ⟨rfl, hb1⟩
  have X1 := Lib.hid hb1
  clear hb1
  go_wp2_with fail
  refine (new_c many w1).mono ?_
  rintro e w2 ⟨p, S2, rfl, hm, st⟩
  have X := Lib.hid (Ext.trans _ _ _ X1.out (show Ext w1 w2 from st.keep.below (Nat.le_refl _) (fun _ _ x => x)))
  clear st X1
  obtain ⟨hN0, hN1, hN⟩ := clamp_spec many
  generalize clampM many = N at hm hN hN0 hN1
  have H := Lib.hid hm
  have HW := Lib.hid (new_wf hN0 hN1).1
  have hlt : 0 < (List.replicate N (1 : Int)).length := by simpa using hN0
  have hrl : (List.replicate N (1 : Int)).length = N := by simp
  clear hm
  rcases Int.lt_or_le symbol 0 with hs | hs
  · have d1 : decide (symbol < 0) = true := by simpa using hs
    go_wp2_with fail
    refine (see_out H.out hlt symbol (.inl hs)).mono ?_
    rintro e w3 ⟨rfl, rfl⟩
    go_wp2_with fail
    refine (part_out H.out hlt symbol (.inl hs)).mono ?_
    rintro e w3 ⟨rfl, rfl⟩
    go_wp2_with fail
    refine (see_nil _ symbol).mono ?_
    rintro e w4 ⟨rfl, rfl⟩
    go_wp2_with fail
    refine (part_nil _ symbol).mono ?_
    rintro e w5 ⟨rfl, rfl⟩
    go_wp2_with fail
    refine (size_c H.out hlt).mono ?_
    rintro e w6 ⟨rfl, rfl⟩
    rw [hrl]
    go_wp2_with fail
    refine (all_c H.out hlt).mono ?_
    rintro e w7 ⟨rfl, rfl⟩
    rw [rep_sum]
    rcases Int.lt_or_le place 0 with hp | hp
    · have p1 : decide (0 ≤ place) = false := by simp; omega
      go_wp2_with fail
      refine (find_out H.out hlt place (.inl hp)).mono ?_
      rintro e w8 ⟨rfl, rfl⟩
      go_wp2_with fail
      refine (size_nil _).mono ?_
      rintro e w9 ⟨rfl, rfl⟩
      go_wp2_with fail
      refine (all_nil _).mono ?_
      rintro e w10 ⟨rfl, rfl⟩
      go_wp2_with fail
      refine (find_nil _ place).mono ?_
      rintro e w11 ⟨rfl, rfl⟩
      go_wp2_with fail
      go_ret
      exact ⟨rfl, X.out⟩
    · have p1 : decide (0 ≤ place) = true := by simpa using hp
      rcases Int.lt_or_le place (N : Int) with hq | hq
      · have p2 : decide (place < (N : Int)) = true := by simpa using hq
        have p3 : decide ((0 : Int) ≤ ((findG (List.replicate N 1) place 0 : Nat) : Int)) = true := by simp
        go_wp2_with fail
        refine (find_c H.out HW.out place hp (by rw [rep_sum]; exact hq)).mono ?_
        rintro e w8 ⟨rfl, rfl⟩
        go_wp2_with fail
        refine (size_nil _).mono ?_
        rintro e w9 ⟨rfl, rfl⟩
        go_wp2_with fail
        refine (all_nil _).mono ?_
        rintro e w10 ⟨rfl, rfl⟩
        go_wp2_with fail
        refine (find_nil _ place).mono ?_
        rintro e w11 ⟨rfl, rfl⟩
        go_wp2_with fail
        go_ret
        exact ⟨rfl, X.out⟩
      · have p2 : decide (place < (N : Int)) = false := by simp; omega
        go_wp2_with fail
        refine (find_out H.out hlt place (.inr (by rw [rep_sum]; exact hq))).mono ?_
        rintro e w8 ⟨rfl, rfl⟩
        go_wp2_with fail
        refine (size_nil _).mono ?_
        rintro e w9 ⟨rfl, rfl⟩
        go_wp2_with fail
        refine (all_nil _).mono ?_
        rintro e w10 ⟨rfl, rfl⟩
        go_wp2_with fail
        refine (find_nil _ place).mono ?_
        rintro e w11 ⟨rfl, rfl⟩
        go_wp2_with fail
        go_ret
        exact ⟨rfl, X.out⟩
  · have d1 : decide (symbol < 0) = false := by simp; omega
    rcases Int.lt_or_le symbol (N : Int) with hs2 | hs2
    · have d2 : decide ((N : Int) ≤ symbol) = false := by simp; omega
      go_wp2_with fail
      refine (see_nil _ symbol).mono ?_
      rintro e w4 ⟨rfl, rfl⟩
      go_wp2_with fail
      refine (part_nil _ symbol).mono ?_
      rintro e w5 ⟨rfl, rfl⟩
      go_wp2_with fail
      refine (size_c H.out hlt).mono ?_
      rintro e w6 ⟨rfl, rfl⟩
      rw [hrl]
      go_wp2_with fail
      refine (all_c H.out hlt).mono ?_
      rintro e w7 ⟨rfl, rfl⟩
      rw [rep_sum]
      rcases Int.lt_or_le place 0 with hp | hp
      · have p1 : decide (0 ≤ place) = false := by simp; omega
        go_wp2_with fail
        refine (find_out H.out hlt place (.inl hp)).mono ?_
        rintro e w8 ⟨rfl, rfl⟩
        go_wp2_with fail
        refine (size_nil _).mono ?_
        rintro e w9 ⟨rfl, rfl⟩
        go_wp2_with fail
        refine (all_nil _).mono ?_
        rintro e w10 ⟨rfl, rfl⟩
        go_wp2_with fail
        refine (find_nil _ place).mono ?_
        rintro e w11 ⟨rfl, rfl⟩
        go_wp2_with fail
        go_ret
        exact ⟨rfl, X.out⟩
      · have p1 : decide (0 ≤ place) = true := by simpa using hp
        rcases Int.lt_or_le place (N : Int) with hq | hq
        · have p2 : decide (place < (N : Int)) = true := by simpa using hq
          have p3 : decide ((0 : Int) ≤ ((findG (List.replicate N 1) place 0 : Nat) : Int)) = true := by simp
          go_wp2_with fail
          refine (find_c H.out HW.out place hp (by rw [rep_sum]; exact hq)).mono ?_
          rintro e w8 ⟨rfl, rfl⟩
          go_wp2_with fail
          refine (size_nil _).mono ?_
          rintro e w9 ⟨rfl, rfl⟩
          go_wp2_with fail
          refine (all_nil _).mono ?_
          rintro e w10 ⟨rfl, rfl⟩
          go_wp2_with fail
          refine (find_nil _ place).mono ?_
          rintro e w11 ⟨rfl, rfl⟩
          go_wp2_with fail
          go_ret
          exact ⟨rfl, X.out⟩
        · have p2 : decide (place < (N : Int)) = false := by simp; omega
          go_wp2_with fail
          refine (find_out H.out hlt place (.inr (by rw [rep_sum]; exact hq))).mono ?_
          rintro e w8 ⟨rfl, rfl⟩
          go_wp2_with fail
          refine (size_nil _).mono ?_
          rintro e w9 ⟨rfl, rfl⟩
          go_wp2_with fail
          refine (all_nil _).mono ?_
          rintro e w10 ⟨rfl, rfl⟩
          go_wp2_with fail
          refine (find_nil _ place).mono ?_
          rintro e w11 ⟨rfl, rfl⟩
          go_wp2_with fail
          go_ret
          exact ⟨rfl, X.out⟩
    · have d2 : decide ((N : Int) ≤ symbol) = true := by simpa using hs2
      go_wp2_with fail
      refine (see_out H.out hlt symbol (.inr (by rw [hrl]; exact hs2))).mono ?_
      rintro e w3 ⟨rfl, rfl⟩
      go_wp2_with fail
      refine (part_out H.out hlt symbol (.inr (by rw [hrl]; exact hs2))).mono ?_
      rintro e w3 ⟨rfl, rfl⟩
      go_wp2_with fail
      refine (see_nil _ symbol).mono ?_
      rintro e w4 ⟨rfl, rfl⟩
      go_wp2_with fail
      refine (part_nil _ symbol).mono ?_
      rintro e w5 ⟨rfl, rfl⟩
      go_wp2_with fail
      refine (size_c H.out hlt).mono ?_
      rintro e w6 ⟨rfl, rfl⟩
      rw [hrl]
      go_wp2_with fail
      refine (all_c H.out hlt).mono ?_
      rintro e w7 ⟨rfl, rfl⟩
      rw [rep_sum]
      rcases Int.lt_or_le place 0 with hp | hp
      · have p1 : decide (0 ≤ place) = false := by simp; omega
        go_wp2_with fail
        refine (find_out H.out hlt place (.inl hp)).mono ?_
        rintro e w8 ⟨rfl, rfl⟩
        go_wp2_with fail
        refine (size_nil _).mono ?_
        rintro e w9 ⟨rfl, rfl⟩
        go_wp2_with fail
        refine (all_nil _).mono ?_
        rintro e w10 ⟨rfl, rfl⟩
        go_wp2_with fail
        refine (find_nil _ place).mono ?_
        rintro e w11 ⟨rfl, rfl⟩
        go_wp2_with fail
        go_ret
        exact ⟨rfl, X.out⟩
      · have p1 : decide (0 ≤ place) = true := by simpa using hp
        rcases Int.lt_or_le place (N : Int) with hq | hq
        · have p2 : decide (place < (N : Int)) = true := by simpa using hq
          have p3 : decide ((0 : Int) ≤ ((findG (List.replicate N 1) place 0 : Nat) : Int)) = true := by simp
          go_wp2_with fail
          refine (find_c H.out HW.out place hp (by rw [rep_sum]; exact hq)).mono ?_
          rintro e w8 ⟨rfl, rfl⟩
          go_wp2_with fail
          refine (size_nil _).mono ?_
          rintro e w9 ⟨rfl, rfl⟩
          go_wp2_with fail
          refine (all_nil _).mono ?_
          rintro e w10 ⟨rfl, rfl⟩
          go_wp2_with fail
          refine (find_nil _ place).mono ?_
          rintro e w11 ⟨rfl, rfl⟩
          go_wp2_with fail
          go_ret
          exact ⟨rfl, X.out⟩
        · have p2 : decide (place < (N : Int)) = false := by simp; omega
          go_wp2_with fail
          refine (find_out H.out hlt place (.inr (by rw [rep_sum]; exact hq))).mono ?_
          rintro e w8 ⟨rfl, rfl⟩
          go_wp2_with fail
          refine (size_nil _).mono ?_
          rintro e w9 ⟨rfl, rfl⟩
          go_wp2_with fail
          refine (all_nil _).mono ?_
          rintro e w10 ⟨rfl, rfl⟩
          go_wp2_with fail
          refine (find_nil _ place).mono ?_
          rintro e w11 ⟨rfl, rfl⟩
          go_wp2_with fail
          go_ret
          exact ⟨rfl, X.out⟩
end Go.Proofs.Ytoijcblldeahiaa.Model
