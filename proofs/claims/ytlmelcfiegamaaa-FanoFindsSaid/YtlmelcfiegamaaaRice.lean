/- Rising numbers by their gaps: what Check, gap, cost, Param tell. -/
import Derived.Test.YtlmelcfiegamaaaBitsW
import Derived.Test.YtlmelcfiegamaaaWireRef
import Derived.Test.YtlmelcfiegamaaaRelyC
import Derived.Deep.QuietTactic
import Derived.BigQuiet
import Derived.LoopTactic
import Derived.Outline
namespace Go.Proofs.Ytlmelcfiegamaaa.Rice
open Go.RowKit Go.Proofs.Ytlmelcfiegamaaa.Own Go.Proofs.Ytlmelcfiegamaaa.Rely
attribute [local go_sem] max_ints min_ints

theorem ext_drewN (w : World) (n : Nat) : Ext w (w.drewN n) := ⟨rfl, rfl, rfl, Nat.le_refl _, fun _ _ => rfl⟩

/-- Numbers that rise. -/
def Rises (l : List Int) : Prop := ∀ i, i + 1 < l.length → l.getD i 0 < l.getD (i + 1) 0
def U64s (l : List Int) : Prop := ∀ x ∈ l, 0 ≤ x ∧ x ≤ 18446744073709551615
theorem U64s.at {l : List Int} (h : U64s l) {i : Nat} (hi : i < l.length) : 0 ≤ l.getD i 0 ∧ l.getD i 0 ≤ 18446744073709551615 :=
  h _ (by simp [List.getD_eq_getElem?_getD, List.getElem?_eq_getElem hi])
/-- Up to a place they rise. -/
def RisesTo (l : List Int) (n : Nat) : Prop := ∀ i, i + 1 < n → l.getD i 0 < l.getD (i + 1) 0
def checkR (l : List Int) : Int := if 4096 < l.length then 7 else if (List.range (l.length - 1)).all (fun i => l.getD i 0 < l.getD (i + 1) 0) then 0 else 8
theorem checkR_ok {l : List Int} (h : l.length ≤ 4096) (hr : Rises l) : checkR l = 0 := by
  unfold checkR
  rw [if_neg (by omega), if_pos]
  rw [List.all_eq_true]
  intro i hi
  rw [List.mem_range] at hi
  simpa using hr i (by omega)
theorem checkR_no {l : List Int} (h : l.length ≤ 4096) {i : Nat} (hi : i + 1 < l.length) (hn : ¬ l.getD i 0 < l.getD (i + 1) 0) : checkR l = 8 := by
  unfold checkR
  rw [if_neg (by omega), if_neg]
  rw [List.all_eq_true]
  intro hall
  have := hall i (by rw [List.mem_range]; omega)
  exact hn (by simpa using this)
theorem checkR_many {l : List Int} (h : 4096 < l.length) : checkR l = 7 := by unfold checkR; rw [if_pos h]

theorem u64_case (P : Int) (h0 : 0 ≤ P) (h1 : P ≤ 18446744073709551615) : IntKind.u64.wrap P = P := by rw [Bit.wrap64]; omega
set_option maxHeartbeats 1000000 in
theorem check_c (A : Option Addr) (c : Nat) (l : List Int) (w : World) (hr : Reads w .u64 A l) (hl : l.length ≤ 1000000000) :
    Calls Try.prog 23 #[.slice A l.length c] w fun e w' => e = .returned (.int .i64 (checkR l)) ∧ Ext w w' := by
  have HR := Lib.hid hr
  clear hr
  by_cases h4 : 4096 < l.length
  · have HC := Lib.hid (checkR_many h4)
    go_enter Try.func23, Try.ntmps23
    go_wp2_with fail
    go_ret
    exact ⟨by rw [HC.out]; rfl, Ext.refl _⟩
  go_enter Try.func23, Try.ntmps23
  go_wp2_with fail
  go_loopw [3] (fun i wr => ∃ (k : Nat), 1 ≤ k ∧ i = .int .i64 k ∧ (∀ j, j + 1 < k → l.getD j 0 < l.getD (j + 1) 0) ∧ Ext w wr) (fun i _ => l.length - (intOf i).toNat)
  case atStart => exact ⟨1, Nat.le_refl _, rfl, fun j hj => by omega, Ext.refl _⟩
  case round =>
    obtain ⟨k, hk, rfl, hri, hx⟩ := hrel
    have HI := Lib.hid hri
    have HX := Lib.hid hx
    clear hri hx
    by_cases hlt : k < l.length
    · obtain ⟨q, rfl⟩ : ∃ q, k = q + 1 := ⟨k - 1, by omega⟩
      obtain ⟨b, o, rfl, hbl, cx⟩ := HX.out.reads HR.out (q + 1) hlt
      obtain ⟨b', o', e, _, cy⟩ := HX.out.reads HR.out q (by omega)
      injection e with e
      injection e with e1 e2 _
      subst e1 e2
      obtain ⟨x, hx⟩ : ∃ x, l.getD (q + 1) 0 = x := ⟨_, rfl⟩
      obtain ⟨y, hy⟩ : ∃ y, l.getD q 0 = y := ⟨_, rfl⟩
      rw [hx] at cx
      rw [hy] at cy
      have HXX := Lib.hid hx
      have HYY := Lib.hid hy
      have cx' : wr.cell? ⟨b, o + q + 1, none⟩ = some (.int .u64 x) := by rw [Nat.add_assoc]; exact cx
      have hq1 : ((q + 1 : Nat) : Int) < (l.length : Int) := by omega
      clear hx hy
      by_cases hxy : y < x
      · have hd : decide (x ≤ y) = false := by simp; omega
        clear hxy
        go_wp2_with fail
        go_quiet (fail)
        go_wp2_with fail
        go_roundw
        case rel => 
          refine ⟨q + 2, by omega, by go_num, fun j hj => ?_, Ext.trans _ _ _ HX.out (ext_drewN _ _)⟩
          by_cases hjq : j = q
          · subst hjq; rw [HXX.out, HYY.out]; simpa using hd
          · exact HI.out j (by omega)
        case measure => simp [intOf]; omega
      · have hd : decide (x ≤ y) = true := by simp; omega
        have HC := Lib.hid (checkR_no (by omega) hlt (show ¬ l.getD q 0 < l.getD (q + 1) 0 by rw [HXX.out, HYY.out]; exact hxy))
        clear hxy
        go_wp2_with fail
        go_quiet (fail)
        go_wp2_with fail
        go_ret
        exact ⟨by rw [HC.out]; rfl, Ext.trans _ _ _ HX.out (ext_drewN _ _)⟩
    · have HC := Lib.hid (checkR_ok (l := l) (by omega) (fun i hi => HI.out i (by omega)))
      go_wp2_with fail
      go_ret
      exact ⟨by rw [HC.out]; rfl, HX.out⟩

/-! ### gaps -/
def gapN (l : List Int) (i : Nat) : Nat := if i = 0 then (l.getD 0 0).toNat else (l.getD i 0 - l.getD (i - 1) 0 - 1).toNat
def gaps (l : List Int) : List Nat := (List.range l.length).map (gapN l)
theorem gaps_length (l : List Int) : (gaps l).length = l.length := by simp [gaps]
theorem gaps_at (l : List Int) {i : Nat} (h : i < l.length) : (gaps l)[i]'(by rw [gaps_length]; exact h) = gapN l i := by simp [gaps]
theorem gapN_lt {l : List Int} (hu : U64s l) (hr : Rises l) {i : Nat} (h : i < l.length) : gapN l i < 18446744073709551616 := by
  unfold gapN
  split
  · have := hu.at (i := 0) (by omega); omega
  · have h1 := hu.at h
    have h2 := hu.at (i := i - 1) (by omega)
    omega
set_option maxHeartbeats 1000000 in
theorem gap_c (A : Option Addr) (c : Nat) (l : List Int) (w : World) (hr : Reads w .u64 A l) (hl : l.length ≤ 1000000000) (hu : U64s l) (hri : Rises l) (i : Nat) (hi : i < l.length) :
    Calls Try.prog 52 #[.slice A l.length c, .int .i64 i] w fun e w' => e = .returned (.int .u64 (gapN l i)) ∧ Ext w w' := by
  cases i with
  | zero =>
    obtain ⟨b, o, rfl, hbl, cx⟩ := hr 0 hi
    have h0 := hu.at hi
    obtain ⟨x, hx⟩ : ∃ x, l.getD 0 0 = x := ⟨_, rfl⟩
    rw [hx] at cx h0
    rw [Nat.add_zero] at cx
    have HG := Lib.hid (show ((gapN l 0 : Nat) : Int) = x by unfold gapN; rw [if_pos rfl, hx]; omega)
    have hl0 : (0 : Int) < (l.length : Int) := by omega
    clear hr hu hri hx
    go_enter Try.func52, Try.ntmps52
    go_wp2_with fail
    go_ret
    exact ⟨by rw [HG.out]; rfl, Ext.refl _⟩
  | succ q =>
    obtain ⟨b, o, rfl, hbl, cx⟩ := hr (q + 1) hi
    obtain ⟨b', o', e, _, cy⟩ := hr q (by omega)
    injection e with e
    injection e with e1 e2 _
    subst e1 e2
    have h0 := hu.at hi
    have h1 := hu.at (i := q) (by omega)
    have h2 := hri q hi
    obtain ⟨x, hx⟩ : ∃ x, l.getD (q + 1) 0 = x := ⟨_, rfl⟩
    obtain ⟨y, hy⟩ : ∃ y, l.getD q 0 = y := ⟨_, rfl⟩
    rw [hx] at cx h0 h2
    rw [hy] at cy h1 h2
    have HG := Lib.hid (show ((gapN l (q + 1) : Nat) : Int) = x - y - 1 by unfold gapN; rw [if_neg (by omega), hx, Nat.add_sub_cancel, hy]; omega)
    have cx' : w.cell? ⟨b, o + q + 1, none⟩ = some (.int .u64 x) := by rw [Nat.add_assoc]; exact cx
    have hq1 : ((q + 1 : Nat) : Int) < (l.length : Int) := by omega
    have hz : (((q + 1 : Nat) : Int) == 0) = false := by rw [beq_eq_false_iff_ne]; omega
    have hw1 : IntKind.u64.wrap (x - y) = x - y := u64_case _ (by omega) (by omega)
    have hw2 : IntKind.u64.wrap (x - y - 1) = x - y - 1 := u64_case _ (by omega) (by omega)
    clear hr hu hri hx hy
    go_enter Try.func52, Try.ntmps52
    go_wp2_with fail
    go_quiet (fail)
    go_wp2_with fail
    go_ret
    exact ⟨by rw [HG.out]; rfl, ext_drewN _ _⟩

/-! ### cost -/
def qOk (k : Nat) (gs : List Nat) : Bool := gs.all fun g => g / 2 ^ k ≤ 4096
def bitsN (k : Nat) (gs : List Nat) : Nat := (gs.map fun g => g / 2 ^ k + 1 + k).sum
theorem bitsN_app (k : Nat) (a b : List Nat) : bitsN k (a ++ b) = bitsN k a + bitsN k b := by simp [bitsN]
theorem bitsN_le (k : Nat) : ∀ gs : List Nat, qOk k gs = true → bitsN k gs ≤ (4097 + k) * gs.length
  | [], _ => by simp [bitsN]
  | g :: gs, h => by
    simp only [qOk, List.all_cons, Bool.and_eq_true, decide_eq_true_eq] at h
    have ih := bitsN_le k gs h.2
    simp only [bitsN, List.map_cons, List.sum_cons, List.length_cons] at ih ⊢
    rw [Nat.mul_add]; omega
theorem take_gaps (l : List Int) {i : Nat} (h : i < l.length) : (gaps l).take (i + 1) = (gaps l).take i ++ [gapN l i] := by
  rw [List.take_succ_eq_append_getElem (by rw [gaps_length]; exact h), gaps_at l h]
def costV (k : Nat) (gs : List Nat) : Value := if qOk k gs then .tuple #[.int .i64 (bitsN k gs), .bool true] else .tuple #[.int .i64 0, .bool false]
set_option maxHeartbeats 2000000 in
theorem cost_c (A : Option Addr) (c : Nat) (l : List Int) (w : World) (hr : Reads w .u64 A l) (hl : l.length ≤ 4096) (hu : U64s l) (hri : Rises l) (k : Nat) (hk : k ≤ 63) :
    Calls Try.prog 68 #[.slice A l.length c, .int .i64 k] w fun e w' => e = .returned (costV k (gaps l)) ∧ Ext w w' := by
  have HR := Lib.hid hr
  have HU := Lib.hid hu
  have HRI := Lib.hid hri
  clear hr hu hri
  go_enter Try.func68, Try.ntmps68
  go_wp2_with fail
  go_loopw [6, 11] (fun n v wr => ∃ (i : Nat), i ≤ l.length ∧ v = .int .i64 i ∧ qOk k ((gaps l).take i) = true ∧ n = .int .i64 (bitsN k ((gaps l).take i)) ∧ Ext w wr) (fun _ v _ => l.length - (intOf v).toNat)
  case atStart => exact ⟨0, Nat.zero_le _, rfl, rfl, rfl, Ext.refl _⟩
  case round =>
    obtain ⟨i, hi, rfl, hq, rfl, hx⟩ := hrel
    have HX := Lib.hid hx
    have HQ := Lib.hid hq
    have HB := Lib.hid (bitsN_le k _ hq)
    clear hx hq
    by_cases hlt : i < l.length
    · have HT := Lib.hid (take_gaps l hlt)
      have hg0 := gapN_lt HU.out HRI.out hlt
      have HU64 := Lib.hid hg0
      have hbn : bitsN k ((gaps l).take i) ≤ 20000000 := by
        have h1 := HB.out
        have h2 : ((gaps l).take i).length ≤ 4096 := by rw [List.length_take, gaps_length]; omega
        have h3 : (4097 + k) * ((gaps l).take i).length ≤ 4160 * 4096 := Nat.mul_le_mul (by omega) h2
        omega
      obtain ⟨P, hP⟩ : ∃ P, P = bitsN k ((gaps l).take i) := ⟨_, rfl⟩
      rw [← hP] at hbn ⊢
      have HP := Lib.hid hP
      clear hP hg0
      have hlti : (i : Int) < (l.length : Int) := by omega
      go_wp2_with fail
      refine (gap_c A c l wr (HX.out.reads HR.out) (by omega) HU.out HRI.out i hlt).mono ?_
      rintro e w2 ⟨rfl, hx2⟩
      have HX2 := Lib.hid (Ext.trans _ _ _ HX.out hx2)
      clear hx2
      obtain ⟨g, hg⟩ : ∃ g, gapN l i = g := ⟨_, rfl⟩
      rw [hg]
      have HG := Lib.hid hg
      clear hg
      obtain ⟨Q, hQ⟩ : ∃ Q, g / 2 ^ k = Q := ⟨_, rfl⟩
      have hgQ : (g : Int) / 2 ^ k = (Q : Int) := by rw [← hQ, Int.natCast_ediv, Int.natCast_pow]; rfl
      have HQ1 := Lib.hid hQ
      clear hQ
      by_cases hq : Q ≤ 4096
      · have h1 := Lib.hid (show qOk k ((gaps l).take (i + 1)) = true by
          rw [HT.out]; unfold qOk at *; rw [List.all_append, Bool.and_eq_true]; refine ⟨HQ.out, ?_⟩; simp [HG.out, HQ1.out]; exact hq)
        have h2 := Lib.hid (show ((bitsN k ((gaps l).take (i + 1)) : Nat) : Int) = (P : Int) + ((Q : Int) + 1 + k) by
          rw [HT.out, bitsN_app, ← HP.out]; simp [bitsN, HG.out, HQ1.out])
        go_wp2_with fail
        go_roundw
        case rel => exact ⟨i + 1, by omega, by go_num, h1.out, by rw [h2.out], HX2.out⟩
        case measure => simp [intOf]; omega
      · have h1 := Lib.hid (show costV k (gaps l) = .tuple #[.int .i64 0, .bool false] by
          unfold costV
          rw [if_neg]
          intro hall
          unfold qOk at hall
          rw [List.all_eq_true] at hall
          have := hall (gapN l i) (by rw [← gaps_at l hlt]; exact List.getElem_mem _)
          rw [HG.out, HQ1.out] at this
          exact hq (by simpa using this))
        go_wp2_with fail
        go_ret2
        exact ⟨by rw [h1.out]; rfl, HX2.out⟩
    · obtain rfl : i = l.length := by omega
      have h1 := Lib.hid (show costV k (gaps l) = .tuple #[.int .i64 (bitsN k (gaps l)), .bool true] by
        unfold costV
        have := HQ.out
        rw [List.take_of_length_le (by rw [gaps_length]; omega)] at this
        rw [if_pos this])
      have h2 := Lib.hid (show (gaps l).take l.length = gaps l from List.take_of_length_le (by rw [gaps_length]; omega))
      go_wp2_with fail
      go_ret2
      exact ⟨by rw [h1.out, h2.out]; rfl, HX.out⟩

/-! ### Param -/
def parTo (gs : List Nat) : Nat → Nat × Int
  | 0 => (63, -1)
  | k + 1 => if qOk k gs = true ∧ ((parTo gs k).2 < 0 ∨ (bitsN k gs : Int) < (parTo gs k).2) then (k, bitsN k gs) else parTo gs k
def param (gs : List Nat) : Nat := (parTo gs 64).1
theorem parTo_le (gs : List Nat) : ∀ k, k ≤ 64 → (parTo gs k).1 ≤ 63 ∧ -1 ≤ (parTo gs k).2
  | 0, _ => by simp [parTo]
  | k + 1, h => by
    have ih := parTo_le gs k (by omega)
    unfold parTo
    split
    · simp; omega
    · exact ih
set_option maxHeartbeats 2000000 in
theorem param_c (A : Option Addr) (c : Nat) (l : List Int) (w : World) (hr : Reads w .u64 A l) (hl : l.length ≤ 4096) (hu : U64s l) (hri : Rises l) :
    Calls Try.prog 42 #[.slice A l.length c] w fun e w' => e = .returned (.int .i64 (param (gaps l))) ∧ Ext w w' := by
  have HR := Lib.hid hr
  have HU := Lib.hid hu
  have HRI := Lib.hid hri
  clear hr hu hri
  go_enter Try.func42, Try.ntmps42
  go_wp2_with fail
  go_loopw [3, 4, 8] (fun b m v wr => ∃ (k : Nat), k ≤ 64 ∧ v = .int .i64 k ∧ b = .int .i64 (parTo (gaps l) k).1 ∧ m = .int .i64 (parTo (gaps l) k).2 ∧ Ext w wr) (fun _ _ v _ => 64 - (intOf v).toNat)
  case atStart => exact ⟨0, by omega, rfl, rfl, rfl, Ext.refl _⟩
  case round =>
    obtain ⟨k, hk, rfl, rfl, rfl, hx⟩ := hrel
    have HX := Lib.hid hx
    clear hx
    by_cases hlt : k < 64
    · have HP := Lib.hid (show parTo (gaps l) (k + 1) = if qOk k (gaps l) = true ∧ ((parTo (gaps l) k).2 < 0 ∨ (bitsN k (gaps l) : Int) < (parTo (gaps l) k).2) then (k, (bitsN k (gaps l) : Int)) else parTo (gaps l) k from rfl)
      have hpl := parTo_le (gaps l) k (by omega)
      generalize parTo (gaps l) k = pr at HP hpl ⊢
      obtain ⟨bst, lst⟩ := pr
      simp only at hpl
      go_wp2_with fail
      refine (cost_c A c l wr (HX.out.reads HR.out) hl HU.out HRI.out k (by omega)).mono ?_
      rintro e w2 ⟨rfl, hx2⟩
      have HX2 := Lib.hid (Ext.trans _ _ _ HX.out hx2)
      clear hx2
      unfold costV
      cases hq : qOk k (gaps l) with
      | false =>
        rw [if_neg (by decide)]
        rw [hq, if_neg (by simp)] at HP
        go_wp2_with fail
        go_roundw
        case rel => exact ⟨k + 1, by omega, by go_num, by rw [HP.out], by rw [HP.out], HX2.out⟩
        case measure => simp [intOf]; omega
      | true => 
        rw [if_pos rfl]
        have hbl := bitsN_le k (gaps l) hq
        rw [gaps_length] at hbl
        have hbn : bitsN k (gaps l) ≤ 20000000 := by
          have h3 : (4097 + k) * l.length ≤ 4160 * 4096 := Nat.mul_le_mul (by omega) hl
          omega
        generalize bitsN k (gaps l) = n at HP hbn ⊢
        clear hbl
        rw [hq] at HP
        by_cases h0 : lst < 0
        · have d0 : decide (lst < 0) = true := by simpa using h0
          rw [if_pos ⟨rfl, .inl h0⟩] at HP
          clear h0 hq
          go_wp2_with fail
          go_roundw
          case rel => exact ⟨k + 1, by omega, by go_num, by rw [HP.out], by rw [HP.out], HX2.out⟩
          case measure => simp [intOf]; omega
        · have d0 : decide (lst < 0) = false := by simpa using h0
          by_cases h1 : (n : Int) < lst
          · have d1 : decide ((n : Int) < lst) = true := by simpa using h1
            rw [if_pos ⟨rfl, .inr h1⟩] at HP
            clear h0 h1 hq
            go_wp2_with fail
            go_roundw
            case rel => exact ⟨k + 1, by omega, by go_num, by rw [HP.out], by rw [HP.out], HX2.out⟩
            case measure => simp [intOf]; omega
          · have d1 : decide ((n : Int) < lst) = false := by simpa using h1
            rw [if_neg (fun h => h.2.elim h0 h1)] at HP
            clear h0 h1 hq
            go_wp2_with fail
            go_roundw
            case rel => exact ⟨k + 1, by omega, by go_num, by rw [HP.out], by rw [HP.out], HX2.out⟩
            case measure => simp [intOf]; omega
    · obtain rfl : k = 64 := by omega
      have HP := Lib.hid (show param (gaps l) = (parTo (gaps l) 64).1 from rfl)
      go_wp2_with fail
      go_ret
      exact ⟨by rw [HP.out]; rfl, HX.out⟩
end Go.Proofs.Ytlmelcfiegamaaa.Rice
