/- P7.1, without the document's answer: as long as all count little, the order in which symbols came doesn't matter: at every input, without conditions. -/
import Derived.Test.YtoijcblldeahiaaModel
namespace Go.Proofs.Ytoijcblldeahiaa.Model
open Go.RowKit Go.Proofs.Ytoijcblldeahiaa.Own Go.Proofs.Ytoijcblldeahiaa.Rely
attribute [local go_sem] max_ints min_ints

/-- How much each counts, if none was halved. -/
def plusL (n : Nat) (L : List Nat) : List Int := (List.range n).map fun s => 1 + 24 * (L.count s : Int)
theorem plusL_len (n : Nat) (L : List Nat) : (plusL n L).length = n := by simp [plusL]
theorem plusL_nil (n : Nat) : plusL n [] = List.replicate n 1 := by
  apply List.ext_getElem
  · simp [plusL]
  · intro i h1 h2; simp [plusL]
theorem plusL_at (n : Nat) (L : List Nat) {s : Nat} (h : s < n) : (plusL n L).getD s 0 = 1 + 24 * (L.count s : Int) := by
  rw [List.getD_eq_getElem?_getD, List.getElem?_eq_getElem (by rw [plusL_len]; exact h)]
  simp [plusL]
theorem plusL_plus (n : Nat) (L : List Nat) {s : Nat} (h : s < n) : plusM (plusL n L) s = plusL n (L ++ [s]) := by
  unfold plusM
  rw [plusL_at n L h]
  apply List.ext_getElem
  · simp [plusL]
  · intro i h1 h2
    rw [List.getElem_set]
    have hi : i < n := by simpa [plusL] using h2
    by_cases he : s = i
    · subst he
      simp [plusL]; omega
    · simp [plusL, he, List.count_cons, List.count_nil]
theorem plusL_sum (n : Nat) : ∀ (L : List Nat), (∀ x ∈ L, x < n) → (plusL n L).sum = n + 24 * L.length := by
  intro L
  induction L with
  | nil => intro _; rw [plusL_nil, rep_sum]; simp
  | cons s L ih =>
    intro h
    have hs := h s (by simp)
    have hc : plusL n (s :: L) = plusL n (L ++ [s]) := by
      unfold plusL
      simp [List.count_cons]
    rw [hc, ← plusL_plus n L hs, plus_sum (by rw [plusL_len]; exact hs), ih (fun x hx => h x (by simp [hx]))]
    simp; omega
theorem plusL_wf {n : Nat} (hn : n ≤ 64) (h0 : 0 < n) {L : List Nat} (h : ∀ x ∈ L, x < n) (hl : L.length ≤ 150) : WfM (plusL n L) := by
  refine ⟨fun x hx => ?_, by rw [plusL_sum n L h]; omega, by rw [plusL_len]; exact hn, by rw [plusL_len]; exact h0⟩
  obtain ⟨s, _, rfl⟩ := List.mem_map.1 hx
  omega
theorem plusL_see {n : Nat} (hn : n ≤ 64) {L : List Nat} (h : ∀ x ∈ L, x < n) (hl : L.length < 150) {s : Nat} (hs : s < n) : seeM (plusL n L) s = plusL n (L ++ [s]) := by
  unfold seeM
  rw [plusL_plus n L hs, if_pos]
  rw [plusL_sum n _ (fun x hx => by
    rcases List.mem_append.1 hx with hx | hx
    · exact h x hx
    · rw [List.mem_singleton.1 hx]; exact hs)]
  simp; omega
theorem plusL_rev (n : Nat) (L : List Nat) : plusL n L.reverse = plusL n L := by
  unfold plusL
  simp only [List.count_reverse]
theorem take_snocN (L : List Nat) {k : Nat} (h : k < L.length) : L.take (k + 1) = L.take k ++ [L.getD k 0] := by
  rw [List.take_succ_eq_append_getElem h, List.getD_eq_getElem?_getD, List.getElem?_eq_getElem h]; rfl
/-- Which symbol each byte stands for. -/
def symL (n : Nat) (l : List Int) : List Nat := l.map fun x => x.toNat % n
theorem symL_len (n : Nat) (l : List Int) : (symL n l).length = l.length := by simp [symL]
theorem symL_lt {n : Nat} (h : 0 < n) (l : List Int) : ∀ x ∈ symL n l, x < n := by
  intro x hx
  obtain ⟨y, _, rfl⟩ := List.mem_map.1 hx
  exact Nat.mod_lt _ h
theorem symL_at (n : Nat) {l : List Int} {k : Nat} (h : k < l.length) : (symL n l).getD k 0 = (l.getD k 0).toNat % n := by
  unfold symL
  rw [List.getD_eq_getElem?_getD, List.getElem?_map, List.getElem?_eq_getElem h, List.getD_eq_getElem?_getD, List.getElem?_eq_getElem h]; rfl
theorem symR_at (n : Nat) {l : List Int} {k : Nat} (h : k < l.length) : (symL n l).reverse.getD k 0 = (l.getD (l.length - 1 - k) 0).toNat % n := by
  rw [← symL_at n (by omega), List.getD_eq_getElem?_getD, List.getElem?_reverse (by rw [symL_len]; exact h), symL_len, List.getD_eq_getElem?_getD]
/-- The two models. -/
abbrev Two (n p q : Nat) (l : List Int) (k : Nat) : Asn := Sep (Md p (plusL n ((symL n l).take k))) (Md q (plusL n ((symL n l).reverse.take k)))

theorem sep_new {A' B : Asn} (hB : Lcl B) {w w' : World} {S2 S1' : Nat → Prop} (b : B w S2) (h : A' w' S1') (st : Step (fun _ => False) S1' w w') :
    Sep A' B w' (fun k => S1' k ∨ S2 k) ∧ Step S2 (fun k => S1' k ∨ S2 k) w w' := by
  have := Sep.step hB (A' := A') b (fun _ x _ => x) h st
  have e : (fun k => False ∨ S2 k) = S2 := funext fun k => propext ⟨fun h => h.resolve_left id, .inr⟩
  rw [e] at this
  exact this
set_option maxHeartbeats 8000000 in
set_option maxRecDepth 20000 in
theorem fair_wf (many : Int) (A : Option Addr) (c : Nat) (l : List Int) (w : World) (h1 : (Lit.int .u8 many).wf = true) (h2 : ArgI w .u8 A c l) :
    Calls Try.prog 5 #[.int .u8 many, .slice A l.length c] w fun e w' => e = .returned (.bool true) ∧ Below w.heap.size w w' := by
  have hb := wf_u8 h1
  obtain ⟨m, rfl⟩ : ∃ m : Nat, many = (m : Int) := ⟨many.toNat, by omega⟩
  have HA := Lib.hid h2.reads
  have HU := Lib.hid (show ∀ x ∈ l, 0 ≤ x ∧ x ≤ 255 from fun x hx => wf_u8 (h2.rng x hx))
  have htm : Int.tmod (m : Int) 64 = ((m % 64 : Nat) : Int) := by rw [Int.tmod_eq_emod_of_nonneg (by omega)]; rfl
  obtain ⟨M, hM, hM2⟩ : ∃ M, m % 64 = M ∧ M < 64 := ⟨_, rfl, Nat.mod_lt _ (by omega)⟩
  rw [hM] at htm
  clear h1 h2 hM
  go_enter Try.func5, Try.ntmps5
  go_wp2_with fail
  refine (awake7 w).mono ?_
  rintro e w1 ⟨rfl, hb1⟩
  have X1 := Lib.hid hb1
  clear hb1
  by_cases hl : 150 < l.length
  · have g1 : decide ((150 : Int) < (l.length : Int)) = true := by simp <;> omega
    go_wp2_with fail
    go_ret
    exact ⟨rfl, X1.out⟩
  have g1 : decide ((150 : Int) < (l.length : Int)) = false := by simp <;> omega
  have hll : l.length ≤ 150 := by omega
  obtain ⟨N, hN, hN1, hN2⟩ : ∃ N : Nat, 1 + (M : Int) = (N : Int) ∧ 0 < N ∧ N ≤ 64 := ⟨1 + M, by omega, by omega, by omega⟩
  go_wp2_with fail
  have hcl : clampM (N : Int) = N := by unfold clampM; omega
  refine (new_c (N : Int) w1).mono ?_
  rintro e w2 ⟨p, S2, rfl, hm, st⟩
  rw [hcl, ← plusL_nil] at hm
  have H2 := Lib.hid hm
  have ST2 := Lib.hid st
  clear hm st
  go_wp2_with fail
  refine (new_c (N : Int) w2).mono ?_
  rintro e w3 ⟨q, S3, rfl, hm, st⟩
  rw [hcl, ← plusL_nil] at hm
  have h3 := sep_new (loc_md p (plusL N [])) (A' := Md q (plusL N [])) H2.out hm st
  have HT := Lib.hid (show Two N p q l 0 w3 _ from h3.1.comm)
  have ST := Lib.hid (ST2.out.trans h3.2)
  clear h3 hm st H2 ST2
  generalize hSS : (fun k => S3 k ∨ S2 k) = S4 at HT ST
  clear hSS
  go_wp2_with fail
  go_loopw [8, 29] (fun _ i wr => ∃ (k : Nat) (S' : Nat → Prop), k ≤ l.length ∧ i = .int .i64 k ∧ Two N p q l k wr S' ∧ Step (fun _ => False) S' w1 wr) (fun _ i _ => l.length - (intOf i).toNat)
  case atStart => exact ⟨0, S4, by omega, rfl, HT.out, ST.out⟩
  case round =>
    obtain ⟨k, S', hk, rfl, hm, hst⟩ := hrel
    have HM := Lib.hid hm
    have ST1 := Lib.hid hst
    clear hm hst
    by_cases hlt : k < l.length
    · have hk4 : (k : Int) < (l.length : Int) := by omega
      have RA := (Ext.trans _ _ _ X1.out (show Ext w1 wr from ST1.out.keep.below (Nat.le_refl _) (fun _ _ x => x))).reads HA.out
      obtain ⟨b, o, rfl, hblt, cx⟩ := RA.at hlt
      have hx0 := HU.out (l.getD k 0) (by rw [List.getD_eq_getElem?_getD, List.getElem?_eq_getElem hlt]; exact List.getElem_mem hlt)
      have hsy := symL_at N hlt
      obtain ⟨x, hx, hxb⟩ : ∃ x : Nat, l.getD k 0 = (x : Int) ∧ x ≤ 255 := ⟨(l.getD k 0).toNat, by omega, by omega⟩
      rw [hx] at cx hsy
      have htx : Int.tmod (x : Int) (N : Int) = ((x % N : Nat) : Int) := by rw [Int.tmod_eq_emod_of_nonneg (by omega)]; rfl
      obtain ⟨s, hs, hsN⟩ : ∃ s, x % N = s ∧ s < N := ⟨_, rfl, Nat.mod_lt _ hN1⟩
      rw [hs] at htx
      have hsy : (symL N l).getD k 0 = s := by rw [hsy]; exact hs
      have hkS : k < (symL N l).length := by rw [symL_len]; exact hlt
      have hlk : ∀ y ∈ (symL N l).take k, y < N := fun y hy => symL_lt hN1 l y (List.mem_of_mem_take hy)
      have hlen : ((symL N l).take k).length < 150 := by rw [List.length_take]; omega
      have hseen := plusL_see hN2 hlk hlen hsN
      rw [← hsy, ← take_snocN _ hkS] at hseen
      have hcall := ((see_c (p := p) (plusL_wf hN2 hN1 hlk (by omega)) s (by rw [plusL_len]; exact hsN)).frame (loc_md q (plusL N ((symL N l).reverse.take k)))) _ _ HM.out
      rw [← hsy, hseen, hsy] at hcall
      have HC := Lib.hid hcall
      clear hcall hseen hsy hs hx hx0 RA
      have hN0 : ((N : Int) == 0) = false := by rw [beq_eq_false_iff_ne]; omega
      go_wp2_with fail
      refine HC.out.mono ?_
      rintro e w4 ⟨S5, h5, st5⟩
      obtain ⟨rfl, h6⟩ := Sep.fact h5
      have H5 := Lib.hid h6.comm
      have ST5 := Lib.hid (ST1.out.trans st5)
      clear h5 h6 st5 HC HM cx htx hblt ST1
      have hlt2 : l.length - 1 - k < l.length := by omega
      have RA := (Ext.trans _ _ _ X1.out (show Ext w1 w4 from ST5.out.keep.below (Nat.le_refl _) (fun _ _ x => x))).reads HA.out
      obtain ⟨b2, o2, e2, hblt, cx⟩ := RA.at hlt2
      cases e2
      have hx0 := HU.out (l.getD (l.length - 1 - k) 0) (by rw [List.getD_eq_getElem?_getD, List.getElem?_eq_getElem hlt2]; exact List.getElem_mem hlt2)
      have hsy := symR_at N hlt
      obtain ⟨x2, hx, hxb2⟩ : ∃ x : Nat, l.getD (l.length - 1 - k) 0 = (x : Int) ∧ x ≤ 255 := ⟨(l.getD (l.length - 1 - k) 0).toNat, by omega, by omega⟩
      rw [hx] at cx hsy
      have htx : Int.tmod (x2 : Int) (N : Int) = ((x2 % N : Nat) : Int) := by rw [Int.tmod_eq_emod_of_nonneg (by omega)]; rfl
      obtain ⟨s2, hs, hsN2⟩ : ∃ s, x2 % N = s ∧ s < N := ⟨_, rfl, Nat.mod_lt _ hN1⟩
      rw [hs] at htx
      have hsy : (symL N l).reverse.getD k 0 = s2 := by rw [hsy]; exact hs
      have hkR : k < (symL N l).reverse.length := by rw [List.length_reverse, symL_len]; exact hlt
      have hlkR : ∀ y ∈ (symL N l).reverse.take k, y < N := fun y hy => symL_lt hN1 l y (List.mem_reverse.1 (List.mem_of_mem_take hy))
      have hlenR : ((symL N l).reverse.take k).length < 150 := by rw [List.length_take]; omega
      have hseen := plusL_see hN2 hlkR hlenR hsN2
      rw [← hsy, ← take_snocN _ hkR] at hseen
      have hcall := ((see_c (p := q) (plusL_wf hN2 hN1 hlkR (by omega)) s2 (by rw [plusL_len]; exact hsN2)).frame (loc_md p (plusL N ((symL N l).take (k + 1))))) _ _ H5.out
      rw [← hsy, hseen, hsy] at hcall
      have HC := Lib.hid hcall
      clear hcall hseen hsy hs hx hx0 RA
      have hidx : (l.length : Int) - 1 - (k : Int) = ((l.length - 1 - k : Nat) : Int) := by omega
      generalize l.length - 1 - k = j at hidx cx hlt2
      have hj4 : (j : Int) < (l.length : Int) := by omega
      go_wp2_with fail
      refine HC.out.mono ?_
      rintro e w6 ⟨S7, h7, st7⟩
      obtain ⟨rfl, h8⟩ := Sep.fact h7
      have H8 := Lib.hid h8.comm
      clear h8 h7
      go_wp2_with fail
      exact ⟨⟨k + 1, S7, by omega, by go_num, H8.out, ST5.out.trans st7⟩, by simp [intOf]; omega⟩
    · obtain rfl : k = l.length := by omega
      have hG : Sep (Md p (plusL N (symL N l))) (Md q (plusL N (symL N l))) wr S' := by
        have := HM.out
        unfold Two at this
        rw [List.take_of_length_le (by rw [symL_len]; exact Nat.le_refl _), List.take_of_length_le (by rw [List.length_reverse, symL_len]; exact Nat.le_refl _), plusL_rev] at this
        exact this
      have HG := Lib.hid hG
      have X2 := Lib.hid (Ext.trans _ _ _ X1.out (show Ext w1 wr from ST1.out.keep.below (Nat.le_refl _) (fun _ _ x => x)))
      have HWF := Lib.hid (plusL_wf hN2 hN1 (symL_lt hN1 l) (by rw [symL_len]; exact hll))
      have hgl := plusL_len N (symL N l)
      have HSU := Lib.hid (show (plusL N (symL N l)).sum = (N : Int) + 24 * (l.length : Int) by rw [plusL_sum N _ (symL_lt hN1 l), symL_len])
      clear hG HM HT ST ST1 X1 HA HU
      generalize plusL N (symL N l) = G at HG HWF hgl HSU
      have hGlt : 0 < G.length := by omega
      go_wp2_with fail
      rename_i K0 hK0 K1 hK1
      clear hK0
      go_loopw [56] (fun i w9 => ∃ (k : Nat), k ≤ N ∧ i = .int .i64 k ∧ Sep (Md p G) (Md q G) w9 S' ∧ Ext w w9) (fun i _ => N - (intOf i).toNat)
      case atStart => exact ⟨0, by omega, rfl, HG.out, X2.out⟩
      case round =>
        obtain ⟨k, hk2, rfl, hg, hx⟩ := hrel
        have HG := Lib.hid hg
        have XR := Lib.hid hx
        clear hg hx
        by_cases hkN : k < N
        · have hk4 : (k : Int) < (N : Int) := by omega
          obtain ⟨Ta, ha, _⟩ := HG.out.left
          obtain ⟨Tb, hb', _⟩ := HG.out.comm.left
          have Ha := Lib.hid ha
          have Hb := Lib.hid hb'
          clear ha hb'
          obtain ⟨st, hst⟩ : ∃ st, startM G k = st := ⟨_, rfl⟩
          obtain ⟨ct, hct⟩ : ∃ ct, G.getD k 0 = ct := ⟨_, rfl⟩
          have HP : RowKit.Hid (∀ (r : Nat) (w : World) (S : Nat → Prop), Md r G w S → Calls Try.prog 19 #[.pointer (some ⟨r, 0, none⟩), .int .i64 k] w fun e w' => e = .returned (.tuple #[.int .i64 st, .int .i64 ct]) ∧ Ext w w') := Lib.hid (fun r w S h => by
            rw [← hst, ← hct]; exact part_c h HWF.out k (by omega))
          clear hst hct
          go_wp2_with fail
          refine (HP.out p wr Ta Ha.out).mono ?_
          rintro e w5 ⟨rfl, hx5⟩
          have Hb5 := Lib.hid (Ext.keep (loc_md _ _) hx5 Hb.out)
          have X5 := Lib.hid hx5
          clear hx5
          go_wp2_with fail
          refine (HP.out q w5 Tb Hb5.out).mono ?_
          rintro e w6 ⟨rfl, hx6⟩
          have X6 := Lib.hid (Ext.trans _ _ _ X5.out hx6)
          clear hx6 HP
          go_wp2_with fail
          exact ⟨⟨k + 1, by omega, by go_num, Ext.keep ((loc_md _ _).sep (loc_md _ _)) X6.out HG.out, Ext.trans _ _ _ XR.out X6.out⟩, by simp [intOf]; omega⟩
        · obtain rfl : k = N := by omega
          obtain ⟨Ta, ha, _⟩ := HG.out.left
          obtain ⟨Tb, hb', _⟩ := HG.out.comm.left
          have Ha := Lib.hid ha
          have Hb := Lib.hid hb'
          clear ha hb'
          generalize hZ : G.sum = Z at HSU
          have hz := HSU.out
          have HZ := Lib.hid hZ
          have hzc : (Z == (k : Int) + 24 * (l.length : Int)) = true := by rw [hz]; simp
          clear hz hZ
          go_wp2_with fail
          refine (all_c Ha.out hGlt).mono ?_
          rintro e w5 ⟨rfl, rfl⟩
          rw [HZ.out]
          go_wp2_with fail
          refine (all_c Ha.out hGlt).mono ?_
          rintro e w5 ⟨rfl, rfl⟩
          rw [HZ.out]
          go_wp2_with fail
          refine (all_c Hb.out hGlt).mono ?_
          rintro e w5 ⟨rfl, rfl⟩
          rw [HZ.out]
          go_wp2_with fail
          go_ret
          exact ⟨rfl, XR.out⟩
end Go.Proofs.Ytoijcblldeahiaa.Model
