/- Models: what each call of the model's code leaves. -/
import Derived.Test.YtoijcblldeahiaaProg
import Derived.Test.YtoijcblldeahiaaModelP
import Derived.Test.YtoijcblldeahiaaRely
import Derived.LoopTactic
import Derived.Outline
import Derived.Deep.RegionWith
import Derived.Deep.QuietTactic
import Derived.BigQuiet
namespace Go.Proofs.Ytoijcblldeahiaa.Model
open Go.RowKit Go.Proofs.Ytoijcblldeahiaa.Own Go.Proofs.Ytoijcblldeahiaa.Rely
attribute [local go_sem] max_ints min_ints

theorem ext_drewN (w : World) (n : Nat) : Ext w (w.drewN n) := ⟨rfl, rfl, rfl, Nat.le_refl _, fun _ _ => rfl⟩
theorem info_i64 : (Try.prog.info? 3).map (fun i => (i.zero, i.size, i.bytes)) = some (some (.int .i64 0), 1, 8) := by kernel_rfl
/-- A model at block p: how much each symbol counts. -/
def Md (p : Nat) (cs : List Int) : Asn := Some fun v => Sep (Row 3 .i64 v cs) (Blk p #[v, .int .i64 cs.sum] 65)
theorem loc_md (p : Nat) (cs : List Int) : Lcl (Md p cs) := Lcl.some fun v => (Lcl.row _ _ _ _).sep (Lcl.blk _ _ _)
/-- The same, its parts named. -/
def MA (p g cap : Nat) (cs : List Int) (a : Int) : Asn := Sep (Row 3 .i64 (.slice (some ⟨g, 0, none⟩) cs.length cap) cs) (Blk p #[.slice (some ⟨g, 0, none⟩) cs.length cap, .int .i64 a] 65)
theorem loc_ma (p g cap : Nat) (cs : List Int) (a : Int) : Lcl (MA p g cap cs a) := (Lcl.row _ _ _ _).sep (Lcl.blk _ _ _)
theorem Md.open {p : Nat} {cs : List Int} {w : World} {S : Nat → Prop} (h : Md p cs w S) (h0 : 0 < cs.length) : ∃ g cap, MA p g cap cs cs.sum w S := by
  obtain ⟨v, S1, S2, a, b, d, e⟩ := h
  obtain ⟨g, cap, rfl, _, _⟩ := a.form h0
  exact ⟨g, cap, S1, S2, a, b, d, e⟩
theorem MA.shut {p g cap : Nat} {cs : List Int} {w : World} {S : Nat → Prop} (h : MA p g cap cs cs.sum w S) : Md p cs w S := ⟨_, h⟩
structure MAf (p g cap : Nat) (cs : List Int) (a : Int) (w : World) : Prop where
  c0 : w.cell? ⟨p, 0, none⟩ = some (.slice (some ⟨g, 0, none⟩) cs.length cap)
  c1 : w.cell? ⟨p, 1, none⟩ = some (.int .i64 a)
  f1 : w.frozen? ⟨p, 1, none⟩ = false
  cg : ∀ i, i < cs.length → w.cell? ⟨g, i, none⟩ = some (.int .i64 (cs.getD i 0))
  fg : ∀ i, w.frozen? ⟨g, i, none⟩ = false
  ne : ¬ g = p
  ne' : ¬ p = g
  cap : cs.length ≤ cap
theorem MA.facts {p g cap : Nat} {cs : List Int} {a : Int} {w : World} {S : Nat → Prop} (h : MA p g cap cs a w S) : MAf p g cap cs a w := by
  obtain ⟨S1, S2, a, b, d, e⟩ := h
  refine ⟨b.cell 0, b.cell 1, b.free 1, fun i hi => a.cell hi, fun i => a.free i, ?_, ?_, ?_⟩
  · rintro rfl; exact d g ((a.2 g).2 rfl) ((b.2 g).2 rfl)
  · rintro rfl; exact d p ((a.2 p).2 rfl) ((b.2 p).2 rfl)
  · obtain ⟨A, c, q, hc, _⟩ := a.shape
    injection q with q1 q2 q3
    omega
theorem MA.setN {p g cap : Nat} {cs : List Int} {a : Int} {w : World} {S : Nat → Prop} (h : MA p g cap cs a w S) (i : Nat) (x : Int) :
    MA p g cap (cs.set i x) a (w.setCell ⟨g, i, none⟩ (.int .i64 x)) S ∧ Step S S w (w.setCell ⟨g, i, none⟩ (.int .i64 x)) := by
  have := sepSet (Lcl.blk _ _ _) h i x
  unfold MA
  rw [List.length_set]
  exact this
theorem MA.setA {p g cap : Nat} {cs : List Int} {a : Int} {w : World} {S : Nat → Prop} (h : MA p g cap cs a w S) (x : Int) :
    MA p g cap cs x (w.setCell ⟨p, 1, none⟩ (.int .i64 x)) S ∧ Step S S w (w.setCell ⟨p, 1, none⟩ (.int .i64 x)) := by
  obtain ⟨S1, S2, h1, h2, d, q⟩ := h
  have hs := Blk.set h2 1 (.int .i64 x)
  have hS : S = fun k => S2 k ∨ S1 k := funext fun k => propext ((q k).trans Or.comm)
  have := Sep.step (A' := Blk p #[.slice (some ⟨g, 0, none⟩) cs.length cap, .int .i64 x] 65) (Lcl.row _ _ _ _) h1 (fun k x y => d k y x) hs.1 hs.2
  rw [hS]
  exact ⟨this.1.comm, this.2⟩

/-! ### what only reads -/
theorem size_c {p : Nat} {cs : List Int} {w : World} {S : Nat → Prop} (h : Md p cs w S) (h0 : 0 < cs.length) :
    Calls Try.prog 16 #[.pointer (some ⟨p, 0, none⟩)] w fun e w' => e = .returned (.int .i64 cs.length) ∧ w = w' := by
  obtain ⟨g, cap, h⟩ := h.open h0
  have c0 := h.facts.c0
  clear h
  go_enter Try.func16, Try.ntmps16
  go_wp2_with fail
  go_ret
  exact ⟨rfl, rfl⟩
theorem size_nil (w : World) : Calls Try.prog 16 #[.pointer none] w fun e w' => e = .returned (.int .i64 0) ∧ w = w' := by
  go_enter Try.func16, Try.ntmps16
  go_wp2_with fail
  go_ret
  exact ⟨rfl, rfl⟩
theorem all_c {p : Nat} {cs : List Int} {w : World} {S : Nat → Prop} (h : Md p cs w S) (h0 : 0 < cs.length) :
    Calls Try.prog 17 #[.pointer (some ⟨p, 0, none⟩)] w fun e w' => e = .returned (.int .i64 cs.sum) ∧ w = w' := by
  obtain ⟨g, cap, h⟩ := h.open h0
  have c1 := h.facts.c1
  clear h
  go_enter Try.func17, Try.ntmps17
  go_wp2_with fail
  go_ret
  exact ⟨rfl, rfl⟩
theorem all_nil (w : World) : Calls Try.prog 17 #[.pointer none] w fun e w' => e = .returned (.int .i64 0) ∧ w = w' := by
  go_enter Try.func17, Try.ntmps17
  go_wp2_with fail
  go_ret
  exact ⟨rfl, rfl⟩
/-- No such symbol. -/
theorem part_out {p : Nat} {cs : List Int} {w : World} {S : Nat → Prop} (h : Md p cs w S) (h0 : 0 < cs.length) (s : Int) (hs : s < 0 ∨ (cs.length : Int) ≤ s) :
    Calls Try.prog 19 #[.pointer (some ⟨p, 0, none⟩), .int .i64 s] w fun e w' => e = .returned (.tuple #[.int .i64 0, .int .i64 0]) ∧ w = w' := by
  have H := Lib.hid h
  clear h
  rcases Int.lt_or_le s 0 with hn | hn
  · have d1 : decide (s < 0) = true := by simpa using hn
    go_enter Try.func19, Try.ntmps19
    go_wp2_with fail
    go_ret2
    exact ⟨rfl, rfl⟩
  · have d1 : decide (s < 0) = false := by simpa using hn
    have d2 : decide ((cs.length : Int) ≤ s) = true := by simp; omega
    go_enter Try.func19, Try.ntmps19
    go_wp2_with fail
    refine (size_c H.out h0).mono ?_
    rintro e w1 ⟨rfl, rfl⟩
    go_wp2_with fail
    go_ret2
    exact ⟨rfl, rfl⟩
theorem part_nil (w : World) (s : Int) : Calls Try.prog 19 #[.pointer none, .int .i64 s] w fun e w' => e = .returned (.tuple #[.int .i64 0, .int .i64 0]) ∧ w = w' := by
  rcases Int.lt_or_le s 0 with hn | hn
  · have d1 : decide (s < 0) = true := by simpa using hn
    go_enter Try.func19, Try.ntmps19
    go_wp2_with fail
    go_ret2
    exact ⟨rfl, rfl⟩
  · have d1 : decide (s < 0) = false := by simpa using hn
    have d2 : decide (0 ≤ s) = true := by simpa using hn
    go_enter Try.func19, Try.ntmps19
    go_wp2_with fail
    refine (size_nil w).mono ?_
    rintro e w1 ⟨rfl, rfl⟩
    go_wp2_with fail
    go_ret2
    exact ⟨rfl, rfl⟩
theorem see_out {p : Nat} {cs : List Int} {w : World} {S : Nat → Prop} (h : Md p cs w S) (h0 : 0 < cs.length) (s : Int) (hs : s < 0 ∨ (cs.length : Int) ≤ s) :
    Calls Try.prog 14 #[.pointer (some ⟨p, 0, none⟩), .int .i64 s] w fun e w' => e = .returned (.tuple #[]) ∧ w = w' := by
  have H := Lib.hid h
  clear h
  rcases Int.lt_or_le s 0 with hn | hn
  · have d1 : decide (s < 0) = true := by simpa using hn
    go_enter Try.func14, Try.ntmps14
    go_wp2_with fail
    refine bodyPost_ret (results_none rfl _ _ _) rfl ?_
    exact ⟨rfl, rfl⟩
  · have d1 : decide (s < 0) = false := by simpa using hn
    have d2 : decide ((cs.length : Int) ≤ s) = true := by simp; omega
    go_enter Try.func14, Try.ntmps14
    go_wp2_with fail
    refine (size_c H.out h0).mono ?_
    rintro e w1 ⟨rfl, rfl⟩
    go_wp2_with fail
    refine bodyPost_ret (results_none rfl _ _ _) rfl ?_
    exact ⟨rfl, rfl⟩
theorem see_nil (w : World) (s : Int) : Calls Try.prog 14 #[.pointer none, .int .i64 s] w fun e w' => e = .returned (.tuple #[]) ∧ w = w' := by
  rcases Int.lt_or_le s 0 with hn | hn
  · have d1 : decide (s < 0) = true := by simpa using hn
    go_enter Try.func14, Try.ntmps14
    go_wp2_with fail
    refine bodyPost_ret (results_none rfl _ _ _) rfl ?_
    exact ⟨rfl, rfl⟩
  · have d1 : decide (s < 0) = false := by simpa using hn
    have d2 : decide (0 ≤ s) = true := by simpa using hn
    go_enter Try.func14, Try.ntmps14
    go_wp2_with fail
    refine (size_nil w).mono ?_
    rintro e w1 ⟨rfl, rfl⟩
    go_wp2_with fail
    refine bodyPost_ret (results_none rfl _ _ _) rfl ?_
    exact ⟨rfl, rfl⟩
theorem find_out {p : Nat} {cs : List Int} {w : World} {S : Nat → Prop} (h : Md p cs w S) (h0 : 0 < cs.length) (s : Int) (hs : s < 0 ∨ cs.sum ≤ s) :
    Calls Try.prog 21 #[.pointer (some ⟨p, 0, none⟩), .int .i64 s] w fun e w' => e = .returned (.int .i64 (-1)) ∧ w = w' := by
  have H := Lib.hid h
  clear h
  rcases Int.lt_or_le s 0 with hn | hn
  · have d1 : decide (s < 0) = true := by simpa using hn
    go_enter Try.func21, Try.ntmps21
    go_wp2_with fail
    go_ret
    exact ⟨rfl, rfl⟩
  · have d1 : decide (s < 0) = false := by simpa using hn
    have d2 : decide (cs.sum ≤ s) = true := by simp; omega
    go_enter Try.func21, Try.ntmps21
    go_wp2_with fail
    refine (all_c H.out h0).mono ?_
    rintro e w1 ⟨rfl, rfl⟩
    go_wp2_with fail
    go_ret
    exact ⟨rfl, rfl⟩
theorem find_nil (w : World) (s : Int) : Calls Try.prog 21 #[.pointer none, .int .i64 s] w fun e w' => e = .returned (.int .i64 (-1)) ∧ w = w' := by
  rcases Int.lt_or_le s 0 with hn | hn
  · have d1 : decide (s < 0) = true := by simpa using hn
    go_enter Try.func21, Try.ntmps21
    go_wp2_with fail
    go_ret
    exact ⟨rfl, rfl⟩
  · have d1 : decide (s < 0) = false := by simpa using hn
    have d2 : decide (0 ≤ s) = true := by simpa using hn
    go_enter Try.func21, Try.ntmps21
    go_wp2_with fail
    refine (all_nil w).mono ?_
    rintro e w1 ⟨rfl, rfl⟩
    go_wp2_with fail
    go_ret
    exact ⟨rfl, rfl⟩

/-! ### a symbol's part; whose part a place is -/
set_option maxHeartbeats 2000000 in
theorem part_c {p : Nat} {cs : List Int} {w : World} {S : Nat → Prop} (h : Md p cs w S) (hw : WfM cs) (s : Nat) (hs : s < cs.length) :
    Calls Try.prog 19 #[.pointer (some ⟨p, 0, none⟩), .int .i64 s] w fun e w' => e = .returned (.tuple #[.int .i64 (startM cs s), .int .i64 (cs.getD s 0)]) ∧ Ext w w' := by
  have H := Lib.hid h
  obtain ⟨g, cap, h1⟩ := h.open hw.lt
  have F := Lib.hid h1.facts
  have c0 := h1.facts.c0
  have hcap : s ≤ cap := by have := h1.facts.cap; omega
  have HW := Lib.hid hw
  clear h h1
  have hle := hw.le
  have d1 : decide ((s : Int) < 0) = false := by simp
  have d2 : decide (cs.length ≤ s) = false := by simp; omega
  have d3 : ¬ cs.length ≤ s := by omega
  go_enter Try.func19, Try.ntmps19
  go_wp2_with fail
  refine (size_c H.out HW.out.lt).mono ?_
  rintro e w1 ⟨rfl, rfl⟩
  go_wp2_with fail
  go_loopw [6, 24] (fun v i wr => ∃ k : Nat, k ≤ s ∧ i = .int .i64 k ∧ v = .int .i64 (startM cs k) ∧ wr = w) (fun _ i _ => s - (intOf i).toNat)
  case atStart => exact ⟨0, by omega, rfl, rfl, rfl⟩
  case round =>
    obtain ⟨k, hk, rfl, rfl, rfl⟩ := hrel
    by_cases hlt : k < s
    · have ck := F.out.cg k (by omega)
      have b1 := start_pos HW.out.pos (k + 1)
      have b2 := start_le HW.out.pos (k + 1)
      have b3 := HW.out.all
      have e1 := take_succ_sum (cs := cs) (s := k) (by omega)
      have b4 := start_pos HW.out.pos k
      have b5 := HW.out.pos _ (getD_mem (cs := cs) (s := k) (by omega))
      have HE := Lib.hid e1
      rw [e1] at b1 b2
      clear e1
      generalize cs.getD k 0 = y at ck b1 b2 b5 HE
      generalize startM cs k = x at b1 b2 b4 HE ⊢
      generalize cs.sum = z at b2 b3 F
      have hk4 : (k : Int) < (s : Int) := by omega
      go_wp2_with fail
      exact ⟨⟨k + 1, by omega, by go_num, by rw [HE.out], trivial⟩, by simp [intOf]; omega⟩
    · obtain rfl : k = s := by omega
      have ck := F.out.cg k hs
      obtain ⟨Y, hY⟩ : ∃ Y, cs.getD k 0 = Y := ⟨_, rfl⟩
      have HY := Lib.hid hY
      rw [hY] at ck
      clear hY
      go_wp2_with fail
      go_quiet (fail)
      go_wp2_with fail
      go_ret2
      exact ⟨by rw [HY.out]; rfl, ext_drewN _ _⟩
/-- The symbol to whose part a place belongs. -/
theorem find_step {cs : List Int} {k : Nat} (p : Int) (h : k < cs.length) : findG (cs.drop k) p k = if cs.getD k 0 ≤ p then findG (cs.drop (k + 1)) (p - cs.getD k 0) (k + 1) else k := by
  rw [List.drop_eq_getElem_cons h, List.getD_eq_getElem?_getD, List.getElem?_eq_getElem h]
  rfl
set_option maxHeartbeats 2000000 in
theorem find_c {p : Nat} {cs : List Int} {w : World} {S : Nat → Prop} (h : Md p cs w S) (hw : WfM cs) (pl : Int) (h0 : 0 ≤ pl) (h1 : pl < cs.sum) :
    Calls Try.prog 21 #[.pointer (some ⟨p, 0, none⟩), .int .i64 pl] w fun e w' => e = .returned (.int .i64 (findG cs pl 0 : Nat)) ∧ w = w' := by
  have H := Lib.hid h
  obtain ⟨g, cap, h1⟩ := h.open hw.lt
  have F := Lib.hid h1.facts
  have c0 := h1.facts.c0
  have HW := Lib.hid hw
  clear h h1
  have hle := hw.le
  have hal := hw.all
  have d1 : decide (pl < 0) = false := by simp; omega
  have d2 : decide (cs.sum ≤ pl) = false := by simp; omega
  obtain ⟨R, hR⟩ : ∃ R, findG cs pl 0 = R := ⟨_, rfl⟩
  have HR := Lib.hid hR
  rw [hR]
  clear hR
  go_enter Try.func21, Try.ntmps21
  go_wp2_with fail
  refine (all_c H.out HW.out.lt).mono ?_
  rintro e w1 ⟨rfl, rfl⟩
  go_wp2_with fail
  go_loopw [1, 5] (fun v i wr => ∃ (k : Nat) (q : Int), i = .int .i64 k ∧ v = .int .i64 q ∧ 0 ≤ q ∧ q < (cs.drop k).sum ∧ k ≤ cs.length ∧ findG (cs.drop k) q k = R ∧ wr = w) (fun _ i _ => cs.length - (intOf i).toNat)
  case atStart => exact ⟨0, pl, rfl, rfl, h0, h1, by omega, HR.out, rfl⟩
  case round =>
    obtain ⟨k, q, rfl, rfl, hq0, hq1, hk, hf, rfl⟩ := hrel
    have hlt : k < cs.length := by
      rcases Nat.lt_or_ge k cs.length with h | h
      · exact h
      · rw [List.drop_of_length_le h] at hq1
        simp at hq1; omega
    rw [find_step q hlt] at hf
    have ck := F.out.cg k hlt
    have b1 := start_pos HW.out.pos k
    have b2 := sum_take_drop cs k
    have b3 := sum_take_drop cs (k + 1)
    rw [take_succ_sum hlt] at b3
    have b5 := HW.out.pos _ (getD_mem hlt)
    generalize cs.getD k 0 = y at ck b3 b5 hf
    by_cases hc : y ≤ q
    · rw [if_pos hc] at hf
      have HF := Lib.hid hf
      have hd : decide (y ≤ q) = true := by simpa using hc
      have HB := Lib.hid (show q - y < (cs.drop (k + 1)).sum by omega)
      have hq2 : q < 4097 := by omega
      have hy2 : y ≤ 4096 := by omega
      clear hf b1 b2 b3 hq1
      go_wp2_with fail
      exact ⟨⟨k + 1, q - y, by go_num, by go_num, by omega, HB.out, by omega, HF.out, trivial⟩, by simp [intOf]; omega⟩
    · rw [if_neg hc] at hf
      have hd : decide (y ≤ q) = false := by simpa using hc
      have HF := Lib.hid hf
      clear b1 b2 b3 hq1 hf
      go_wp2_with fail
      go_ret
      exact ⟨by rw [← HF.out]; rfl, rfl⟩

/-! ### a symbol comes -/
set_option maxHeartbeats 4000000 in
theorem see_c {p : Nat} {cs : List Int} (hw : WfM cs) (s : Nat) (hs : s < cs.length) :
    Tri Try.prog 14 #[.pointer (some ⟨p, 0, none⟩), .int .i64 s] (Md p cs) (fun e => Fact (e = .returned (.tuple #[])) (Md p (seeM cs s))) := by
  intro w S h
  have H := Lib.hid h
  obtain ⟨g, cap, h1⟩ := h.open hw.lt
  have F := h1.facts
  have c0 := F.c0
  have c1 := F.c1
  have f1 := F.f1
  have cs0 := F.cg s hs
  have fg := F.fg s
  have ne := F.ne
  have ne' := F.ne'
  have hcap := F.cap
  have HA := Lib.hid h1
  have HW := Lib.hid hw
  have b1 := hw.all
  have hle := hw.le
  have b2 := hw.pos _ (getD_mem hs)
  have b3 := count_le hw.pos hs
  have b4 := start_pos hw.pos s
  clear h h1 F
  obtain ⟨y, hy⟩ : ∃ y, cs.getD s 0 = y := ⟨_, rfl⟩
  obtain ⟨z, hz⟩ : ∃ z, cs.sum = z := ⟨_, rfl⟩
  have HY := Lib.hid hy
  have HZ := Lib.hid hz
  rw [hy] at cs0 b2 b3
  rw [hz] at c1 b1 b3
  have hy2 : y ≤ 4096 := by omega
  have hz2 : 0 ≤ z := by omega
  clear hy hz b3 b4
  have d1 : decide ((s : Int) < 0) = false := by simp
  have d2 : decide (cs.length ≤ s) = false := by simp; omega
  have d3 : ¬ cs.length ≤ s := by omega
  go_enter Try.func14, Try.ntmps14
  go_wp2_with fail
  refine (size_c H.out HW.out.lt).mono ?_
  rintro e w1 ⟨rfl, rfl⟩
  have hs1 := HA.out.setN s (y + 24)
  have hs2 := hs1.1.setA (z + 24)
  have hsum : (cs.set s (y + 24)).sum = z + 24 := by rw [sum_set hs, HY.out, HZ.out]; omega
  by_cases hc : z + 24 ≤ 4096
  · have hd : decide (z + 24 ≤ 4096) = true := by simpa using hc
    have HR := Lib.hid (show Md p (seeM cs s) ((w.setCell ⟨g, s, none⟩ (.int .i64 (y + 24))).setCell ⟨p, 1, none⟩ (.int .i64 (z + 24))) S from by
      have hq : seeM cs s = cs.set s (y + 24) := by
        unfold seeM; rw [plus_sum hs, HZ.out, if_pos hc]; unfold plusM; rw [HY.out]
      rw [hq]
      refine MA.shut (g := g) (cap := cap) ?_
      rw [hsum]
      exact hs2.1)
    have ST := Lib.hid (hs1.2.trans hs2.2)
    clear hs1 hs2 hsum HA H HY HZ HW
    go_wp2_with fail
    refine bodyPost_ret (results_none rfl _ _ _) rfl ?_
    exact ⟨S, ⟨rfl, HR.out⟩, ST.out⟩
  · have hd : decide (z + 24 ≤ 4096) = false := by simpa using hc
    have hs3 := hs2.1.setA 0
    have hq : seeM cs s = halfM (cs.set s (y + 24)) := by
      unfold seeM; rw [plus_sum hs, HZ.out, if_neg hc]; unfold plusM; rw [HY.out]
    have HQ := Lib.hid hq
    have HS3 := Lib.hid hs3.1
    have ST3 := Lib.hid ((hs1.2.trans hs2.2).trans hs3.2)
    have hln : (cs.set s (y + 24)).length = cs.length := List.length_set
    have HPW := Lib.hid (plus_wf HW.out hs)
    rw [show plusM cs s = cs.set s (y + 24) by unfold plusM; rw [HY.out]] at HPW
    clear hs1 hs2 hs3 hq hsum HA H HY HZ HW
    go_wp2_with fail
    generalize ((w.setCell ⟨g, s, none⟩ (.int .i64 (y + 24))).setCell ⟨p, 1, none⟩ (.int .i64 (z + 24))).setCell ⟨p, 1, none⟩ (.int .i64 0) = w3 at HS3 ST3 ⊢
    generalize cs.set s (y + 24) = G at HS3 hln HPW HQ
    clear c0 f1 cs0 c1 fg
    rw [← mix_zero G] at HS3
    go_loopw [4, 5, 43] (fun _ _ i wr => ∃ k : Nat, k ≤ cs.length ∧ i = .int .i64 k ∧ MA p g cap (mixM G k) (startM (halfM G) k) wr S ∧ Step S S w wr) (fun _ _ i _ => cs.length - (intOf i).toNat)
    case atStart => exact ⟨0, by omega, rfl, HS3.out, ST3.out⟩
    case round =>
      obtain ⟨k, hk, rfl, hma, hst⟩ := hrel
      have HM := Lib.hid hma
      have ST := Lib.hid hst
      by_cases hlt : k < cs.length
      · have hkG : k < G.length := by omega
        have F := hma.facts
        have hml := mix_len G (k := k) (by omega)
        have c0 := F.c0
        have f1 := F.f1
        have ck := F.cg k (by omega)
        have fk := F.fg k
        rw [hml, hln] at c0
        rw [mix_at G hkG] at ck
        have b1 := HPW.out.1 _ (getD_mem hkG)
        have b2 := count_le HPW.out.1 hkG
        have b3 := start_pos HPW.out.1 k
        have b4 := HPW.out.2.1
        obtain ⟨x, hx⟩ : ∃ x, G.getD k 0 = x := ⟨_, rfl⟩
        have hms := mix_set G hkG
        rw [hx] at ck b1 b2 hms
        have hx2 : x ≤ 4120 := by omega
        have htd : Int.tdiv (x + 1) 2 = (x + 1) / 2 := Int.tdiv_eq_ediv_of_nonneg (by omega)
        obtain ⟨X, hX⟩ : ∃ X, (x + 1) / 2 = X := ⟨_, rfl⟩
        rw [hX] at htd hms
        have hXb : 0 ≤ X ∧ X ≤ 4120 := by omega
        have hXa : (halfM G).getD k 0 = X := by rw [half_at G hkG, hx, hX]
        clear hma hst F hX b2 b3 b4 hx
        have hs1 := HM.out.setN k X
        rw [hms] at hs1
        have HS1 := Lib.hid hs1.1
        have ST1 := Lib.hid (ST.out.trans hs1.2)
        clear hs1 hms hml
        have hk4 : (k : Int) < (cs.length : Int) := by omega
        go_wp2_with fail
        generalize wr.setCell ⟨g, k, none⟩ (.int .i64 X) = w5 at HS1 ST1 ⊢
        have hnx := take_succ_sum (cs := halfM G) (s := k) (by rw [half_len]; exact hkG)
        rw [hXa] at hnx
        have b6 := start_pos (half_pos HPW.out.1) k
        have b7 := start_le (half_pos HPW.out.1) k
        have b8 := half_sum G HPW.out.1
        have b9 := HPW.out.2.1
        have hA2 : startM (halfM G) k ≤ 4120 := by omega
        have F := HS1.out.facts
        have c0 := F.c0
        have c1 := F.c1
        have f1 := F.f1
        have ck := F.cg k (by rw [mix_len G (by omega)]; exact hkG)
        rw [mix_done G hkG, hXa] at ck
        rw [mix_len G (by omega), hln] at c0
        have hs2 := HS1.out.setA (startM (halfM G) (k + 1))
        rw [hnx] at hs2
        have HNX := Lib.hid hnx
        clear hnx b7 b8 b9 F hXa
        generalize startM (halfM G) k = a at *
        have HS2 := Lib.hid (hs2.1)
        have ST2 := Lib.hid (ST1.out.trans hs2.2)
        clear hs2
        go_big_region
        go_wp2_with fail
        refine ⟨⟨k + 1, by omega, by go_num, ?_, ?_⟩, by simp [intOf]; omega⟩
        · rw [HNX.out]; exact (loc_ma _ _ _ _ _).keep HS2.out (fun _ _ => rfl)
        · first | exact ST2.out.drew | exact ST2.out.drewN _ | exact ST2.out
      · obtain rfl : k = cs.length := by omega
        rw [← hln, mix_end] at HM
        have hst1 : startM (halfM G) G.length = (halfM G).sum := by unfold startM; rw [List.take_of_length_le (by rw [half_len]; exact Nat.le_refl _)]
        rw [hst1] at HM
        have HR := Lib.hid (show Md p (seeM cs s) wr S by rw [HQ.out]; exact HM.out.shut)
        clear hst1 HM hma
        go_wp2_with fail
        go_end0
        exact ⟨S, ⟨rfl, HR.out⟩, ST.out⟩

/-! ### a new one -/
theorem store_md {p : Nat} {v v' a0 a1 : Value} {l : List Int} {w : World} {S : Nat → Prop} (h : Sep (Row 3 .i64 v' l) (Blk p #[v, a0] 65) w S) :
    Sep (Row 3 .i64 v' l) (Blk p #[v', a1] 65) ((w.setCell ⟨p, 0, none⟩ v').setCell ⟨p, 1, none⟩ a1) S ∧ Step S S w ((w.setCell ⟨p, 0, none⟩ v').setCell ⟨p, 1, none⟩ a1) := by
  obtain ⟨S1, S2, h1, h2, d, q⟩ := h
  have hs := Blk.set h2 0 v'
  have hs2 := Blk.set hs.1 1 a1
  have hS : S = fun k => S2 k ∨ S1 k := funext fun k => propext ((q k).trans Or.comm)
  have := Sep.step (A' := Blk p #[v', a1] 65) (Lcl.row _ _ _ _) h1 (fun k x y => d k y x) hs2.1 (hs.2.trans hs2.2)
  rw [hS]
  exact ⟨this.1.comm, this.2⟩
theorem rep_succ (k : Nat) : List.replicate (k + 1) (1 : Int) = List.replicate k 1 ++ [1] := List.replicate_succ'
theorem rep_sum (k : Nat) : (List.replicate k (1 : Int)).sum = k := by
  induction k with
  | zero => rfl
  | succ n ih => rw [List.replicate_succ, List.sum_cons, ih]; omega
/-- How many symbols a model of so many has. -/
def clampM (n : Int) : Nat := (min (max n 1) 64).toNat
theorem clamp_spec (n : Int) : 0 < clampM n ∧ clampM n ≤ 64 ∧ min (max n 1) 64 = (clampM n : Int) := by unfold clampM; omega
theorem md_new (w : World) : Md w.heap.size (List.replicate 0 1) (w.alloc (.cells #[.slice none 0 0, .int .i64 0] 65)) (fun k => k = w.heap.size ∨ False) ∧ Step (fun _ => False) (fun k => k = w.heap.size ∨ False) w (w.alloc (.cells #[.slice none 0 0, .int .i64 0] 65)) := by
  have n1 := Sep.alloc Lcl.emp (w := w) (S := fun _ => False) (fun _ x => x) #[.slice none 0 0, .int .i64 0] 65
  exact ⟨⟨.slice none 0 0, fun _ => False, _, Row.nil 3 .i64 _, Sep.left_of_emp n1.1, fun _ x _ => x, fun k => by simp⟩, n1.2⟩
set_option maxHeartbeats 4000000 in
theorem new_c (n : Int) (w : World) :
    Calls Try.prog 12 #[.int .i64 n] w fun e w' => ∃ p S', e = .returned (.pointer (some ⟨p, 0, none⟩)) ∧ Md p (List.replicate (clampM n) 1) w' S' ∧ Step (fun _ => False) S' w w' := by
  have hN := (clamp_spec n).2.2
  have hN2 := (clamp_spec n).2.1
  generalize clampM n = N at hN hN2 ⊢
  have HM0 := Lib.hid (md_new w).1
  have ST := Lib.hid (md_new w).2
  go_enter Try.func12, Try.ntmps12
  go_wp2_with fail
  generalize w.heap.size = p at HM0 ST ⊢
  go_loopw [9] (fun i wr => ∃ (k : Nat) (S' : Nat → Prop), k ≤ N ∧ i = .int .i64 k ∧ Md p (List.replicate k 1) wr S' ∧ Step (fun _ => False) S' w wr) (fun i _ => N - (intOf i).toNat)
  case atStart => exact ⟨0, _, by omega, rfl, HM0.out, ST.out⟩
  case round =>
    obtain ⟨k, S', hk, rfl, ⟨v, hm⟩, hst⟩ := hrel
    rw [rep_sum] at hm
    have HM := Lib.hid hm
    have ST1 := Lib.hid hst
    clear hst
    by_cases hlt : k < N
    · obtain ⟨T, hT, _⟩ := hm.comm.left
      have c0 : wr.cell? ⟨p, 0, none⟩ = some v := hT.cell 0
      have c1 : wr.cell? ⟨p, 1, none⟩ = some (.int .i64 k) := hT.cell 1
      have f0 := hT.free 0
      clear hm hT
      have hk4 : (k : Int) < (N : Int) := by omega
      go_wp2_with (at_builtin; refine append_lit _ 3 rfl _ _ 27 rfl .i64 8 Try.underlying27 info_i64 (by decide) _ (List.replicate k 1) [1] 1 1 rfl rfl rfl rfl (Lcl.blk _ _ _) HM.out (by simp; omega) ?_; intro A' c' w' S2 h' st'; obtain ⟨T', hT', _⟩ := h'.comm.left; have c0' : w'.cell? ⟨p, 0, none⟩ = some v := hT'.cell 0; have c1' : w'.cell? ⟨p, 1, none⟩ = some (.int .i64 k) := hT'.cell 1; have f0' := hT'.free 0; have f1' := hT'.free 1; have H' := Lib.hid h'; have ST' := Lib.hid st'; clear h' st' hT')
      have hd := store_md (a1 := .int .i64 ((k : Int) + 1)) H'.out
      rw [List.length_replicate] at hd
      refine ⟨⟨k + 1, S2, by omega, by go_num, ⟨.slice A' (k + 1) c', ?_⟩, (ST1.out.trans ST'.out).trans hd.2⟩, by simp [intOf]; omega⟩
      rw [rep_sum, rep_succ]
      exact hd.1
    · obtain rfl : k = N := by omega
      clear hm
      go_wp2_with fail
      go_ret
      exact ⟨p, S', rfl, ⟨v, by rw [rep_sum]; exact HM.out⟩, ST1.out⟩

theorem rep3 : List.replicate (clampM 3) (1 : Int) = [1, 1, 1] := by decide
theorem wf3 : WfM [1, 1, 1] := ⟨by decide, by decide, by decide, by decide⟩
set_option maxHeartbeats 4000000 in
theorem awake7 (w : World) : Calls Try.prog 11 #[] w fun e w' => e = .returned (.bool true) ∧ Ext w w' := by
  go_enter Try.func11, Try.ntmps11
  go_wp2_with fail
  refine (new_c 3 w).mono ?_
  rintro e w1 ⟨p, S1, rfl, h1, st1⟩
  rw [rep3] at h1
  have H1 := Lib.hid h1
  have X1 := Lib.hid (show Ext w w1 from st1.keep.below (Nat.le_refl _) (fun _ _ x => x))
  clear h1 st1
  go_wp2_with fail
  refine (find_c H1.out wf3 2 (by decide) (by decide)).mono ?_
  rintro e w2 ⟨rfl, rfl⟩
  rw [show findG [1, 1, 1] 2 0 = 2 by decide]
  go_wp2_with fail
  refine (new_c 3 w1).mono ?_
  rintro e w3 ⟨p2, S3, rfl, h3, st3⟩
  rw [rep3] at h3
  have H3 := Lib.hid h3
  have X3 := Lib.hid (Ext.trans _ _ _ X1.out (show Ext w1 w3 from st3.keep.below (Nat.le_refl _) (fun _ _ x => x)))
  clear h3 st3
  go_wp2_with fail
  refine (all_c H3.out (by decide)).mono ?_
  rintro e w4 ⟨rfl, rfl⟩
  rw [show ([1, 1, 1] : List Int).sum = 3 by decide]
  go_wp2_with fail
  go_ret
  exact ⟨rfl, X3.out⟩
end Go.Proofs.Ytoijcblldeahiaa.Model
