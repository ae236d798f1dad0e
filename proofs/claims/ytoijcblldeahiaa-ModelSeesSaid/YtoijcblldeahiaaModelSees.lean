/- P7.1: any symbols that come: how much each counts, where its part begins: at every input, without conditions. -/
import Derived.Test.YtoijcblldeahiaaModelR
import Derived.Test.YtoijcblldeahiaaModelFair
import Derived.Test.YtoijcblldeahiaaRelyD
namespace Go.Proofs.Ytoijcblldeahiaa.Model
open Go.RowKit Go.Proofs.Ytoijcblldeahiaa.Own Go.Proofs.Ytoijcblldeahiaa.Rely
attribute [local go_sem] max_ints min_ints

/-- A set of blocks may be written; an assertion stays. -/
def RK (Z : Nat → Prop) (G : World → Prop) (w w' : World) : Prop := Keep Z w w' ∧ (G w → G w')
theorem RK.refl (Z : Nat → Prop) (G : World → Prop) (w : World) : RK Z G w w := ⟨Keep.refl _ _, fun h => h⟩
theorem RK.trans (Z : Nat → Prop) (G : World → Prop) (a b c : World) (h : RK Z G a b) (k : RK Z G b c) : RK Z G a c := ⟨h.1.trans k.1 (fun _ _ q => q) (fun _ _ q => q), fun g => k.2 (h.2 g)⟩
theorem RK.ext {Z : Nat → Prop} {G : World → Prop} (hG : ∀ a b, G a → Ext a b → G b) (w w' : World) (h : Ext w w') : RK Z G w w' := ⟨Keep.of_below h, fun g => hG _ _ g h⟩
/-- How much each counts, after all these came. -/
def stM (n : Nat) (L : List Nat) : List Int := L.foldl seeM (List.replicate n 1)
theorem stM_snoc (n : Nat) (L : List Nat) (s : Nat) : stM n (L ++ [s]) = seeM (stM n L) s := by unfold stM; rw [List.foldl_append]; rfl
theorem fold_wf {n : Nat} : ∀ (L : List Nat) (cs : List Int), WfM cs → cs.length = n → (∀ x ∈ L, x < n) → WfM (L.foldl seeM cs) ∧ (L.foldl seeM cs).length = n
  | [], cs, h, hl, _ => ⟨h, hl⟩
  | s :: L, cs, h, hl, hs => by
    obtain ⟨a, b⟩ := see_wf h (s := s) (by rw [hl]; exact hs s (by simp))
    exact fold_wf L (seeM cs s) a (b.trans hl) (fun x hx => hs x (by simp [hx]))
theorem stM_wf {n : Nat} (h0 : 0 < n) (hn : n ≤ 64) (L : List Nat) (h : ∀ x ∈ L, x < n) : WfM (stM n L) ∧ (stM n L).length = n := fold_wf L _ (new_wf h0 hn).1 (by simp) h
/-- The model, and the answer's. -/
def Both (p pw : Nat) (cs : List Int) (v : Value) : Asn := Sep (Md p cs) (Sep (Row 3 .i64 v cs) (Blk pw #[v] 29))
theorem loc_both (p pw : Nat) (cs : List Int) (v : Value) : Lcl (Both p pw cs v) := (loc_md p cs).sep ((Lcl.row _ _ _ _).sep (Lcl.blk _ _ _))
theorem Both.facts {p pw : Nat} {cs : List Int} {v : Value} {w : World} {S : Nat → Prop} (h : Both p pw cs v w S) :
    ∃ A c T, v = .slice A cs.length c ∧ Reads w .i64 A cs ∧ w.cell? ⟨pw, 0, none⟩ = some v ∧ w.frozen? ⟨pw, 0, none⟩ = false ∧ Md p cs w T := by
  obtain ⟨S1, S2, a, ⟨S3, S4, b, d, _, _⟩, _, _⟩ := h
  obtain ⟨A, c, e, _, hr, _⟩ := b.reads
  exact ⟨A, c, S1, e, hr, d.cell 0, d.free 0, a⟩
/-- The answer's model is put in its place. -/
theorem both_put {p pw : Nat} {cs cs' : List Int} {v v' : Value} {w w' : World} {S S2 : Nat → Prop} (h : Sep (Md p cs') (Sep (Row 3 .i64 v cs) (Blk pw #[v] 29)) w S) (hr : Row 3 .i64 v' cs' w' S2) (st : Step (fun _ => False) S2 w w') :
    ∃ S', Both p pw cs' v' (w'.setCell ⟨pw, 0, none⟩ v') S' ∧ Step S S' w (w'.setCell ⟨pw, 0, none⟩ v') := by
  obtain ⟨S1, S34, a, ⟨S3, S4, b, d, d34, e34⟩, d1, e1⟩ := h
  have hfr : ∀ k, S2 k → ¬ k < w.heap.size := fun k hk => by
    rcases st.fresh k hk with x | x
    · exact absurd x id
    · omega
  have l1 := fun k hk => (loc_md p cs').lt a (k := k) hk
  have l4 := fun k hk => (Lcl.blk _ _ _).lt d (k := k) hk
  have d' : Blk pw #[v] 29 w' S4 := (Lcl.blk _ _ _).stay d st.keep (fun _ _ x => x)
  have a' : Md p cs' w' S1 := (loc_md p cs').stay a st.keep (fun _ _ x => x)
  have hset := Blk.set d' 0 v'
  have a2 : Md p cs' (w'.setCell ⟨pw, 0, none⟩ v') S1 := (loc_md p cs').stay a' hset.2.keep (fun k x y => d1 k x ((e34 k).2 (.inr y)))
  have r2 : Row 3 .i64 v' cs' (w'.setCell ⟨pw, 0, none⟩ v') S2 := (Lcl.row _ _ _ _).stay hr hset.2.keep (fun k x y => hfr k x (l4 k y))
  refine ⟨fun k => S1 k ∨ (S2 k ∨ S4 k), ⟨S1, fun k => S2 k ∨ S4 k, a2, ⟨S2, S4, r2, hset.1, fun k x y => hfr k x (l4 k y), fun _ => Iff.rfl⟩, fun k x y => ?_, fun _ => Iff.rfl⟩, ⟨Keep.trans st.keep hset.2.keep (fun _ _ x => absurd x id) (fun k _ x => (e1 k).2 (.inr ((e34 k).2 (.inr x)))), fun k hk => ?_⟩⟩
  · rcases y with y | y
    · exact hfr k y (l1 k x)
    · exact d1 k x ((e34 k).2 (.inr y))
  · rcases hk with x | x | x
    · exact .inl ((e1 k).2 (.inl x))
    · exact .inr (Nat.le_of_not_lt (hfr k x))
    · exact .inl ((e1 k).2 (.inr ((e34 k).2 (.inr x))))

set_option maxHeartbeats 16000000 in
set_option maxRecDepth 20000 in
theorem sees_wf (many : Int) (A : Option Addr) (c : Nat) (l : List Int) (B : Option Addr) (d : Nat) (pl : List Int) (w : World) (h1 : (Lit.int .u8 many).wf = true) (h2 : ArgI w .u8 A c l) (h3 : ArgI w .u16 B d pl) :
    Calls Try.prog 3 #[.int .u8 many, .slice A l.length c, .slice B pl.length d] w fun e w' => e = .returned (.bool true) ∧ Below w.heap.size w w' := by
  have hb := wf_u8 h1
  obtain ⟨m, rfl⟩ : ∃ m : Nat, many = (m : Int) := ⟨many.toNat, by omega⟩
  have HA := Lib.hid h2.reads
  have HB := Lib.hid h3.reads
  have HU := Lib.hid (show ∀ x ∈ l, 0 ≤ x ∧ x ≤ 255 from fun x hx => wf_u8 (h2.rng x hx))
  have HV := Lib.hid (show ∀ x ∈ pl, 0 ≤ x ∧ x ≤ 65535 from fun x hx => wf_u16 (h3.rng x hx))
  have htm : Int.tmod (m : Int) 64 = ((m % 64 : Nat) : Int) := by rw [Int.tmod_eq_emod_of_nonneg (by omega)]; rfl
  obtain ⟨M, hM, hM2⟩ : ∃ M, m % 64 = M ∧ M < 64 := ⟨_, rfl, Nat.mod_lt _ (by omega)⟩
  rw [hM] at htm
  clear h1 h2 h3 hM
  go_enter Try.func3, Try.ntmps3
  go_wp2_with fail
  refine (awake7 w).mono ?_
  rintro e w1 ⟨rfl, hb1⟩
  have X1 := Lib.hid hb1
  clear hb1
  by_cases hl : 400 < l.length
  · have g1 : decide ((400 : Int) < (l.length : Int)) = true := by simp <;> omega
    go_wp2_with fail
    go_ret
    exact ⟨rfl, X1.out⟩
  have g1 : decide ((400 : Int) < (l.length : Int)) = false := by simp <;> omega
  by_cases hlp : 20 < pl.length
  · have g2 : decide ((20 : Int) < (pl.length : Int)) = true := by simp <;> omega
    go_wp2_with fail
    go_ret
    exact ⟨rfl, X1.out⟩
  have g2 : decide ((20 : Int) < (pl.length : Int)) = false := by simp <;> omega
  have hll : l.length ≤ 400 := by omega
  have hlpl : pl.length ≤ 20 := by omega
  obtain ⟨N, hN, hN1, hN2⟩ : ∃ N : Nat, 1 + (M : Int) = (N : Int) ∧ 0 < N ∧ N ≤ 64 := ⟨1 + M, by omega, by omega, by omega⟩
  go_wp2_with fail
  have hcl : clampM (N : Int) = N := by unfold clampM; omega
  refine (new_c (N : Int) w1).mono ?_
  rintro e w2 ⟨p, S2, rfl, hm, st⟩
  rw [hcl] at hm
  have H2 := Lib.hid hm
  have ST2 := Lib.hid st
  clear hm st hcl
  go_wp2_with fail
  refine (rnew_c N hN2 w2).mono ?_
  rintro e w3 ⟨v, S3, rfl, hm, st⟩
  obtain ⟨Av, cv, rfl, _⟩ := hm.shape
  have hst0 : stM N ((symL N l).take 0) = List.replicate N 1 := rfl
  rw [← hst0] at hm H2 ⊢
  generalize hG : stM N ((symL N l).take 0) = G at hm H2 ⊢
  have h3 := sep_new (loc_md p G) (A' := Row 3 .i64 (.slice Av G.length cv) G) H2.out hm st
  have n4 := Sep.alloc ((Lcl.row _ _ _ _).sep (loc_md _ _)) h3.1 #[.slice Av G.length cv] 29
  have HT := Lib.hid (show Both p w3.heap.size G (.slice Av G.length cv) _ _ from n4.1.assoc'.comm.imp_right (fun _ h => h.comm))
  have ST := Lib.hid ((ST2.out.trans h3.2).trans n4.2)
  clear h3 n4 hm st H2 ST2 hst0
  go_wp2_with fail
  generalize hSS : (fun k => k = w3.heap.size ∨ S3 k ∨ S2 k) = S4 at HT ST
  clear hSS
  generalize w3.alloc (.cells #[.slice Av G.length cv] 29) = w4 at HT ST ⊢
  generalize w3.heap.size = pw at HT ⊢
  rw [← hG] at HT
  go_loopw [40] (fun i wr => ∃ (k : Nat) (S' : Nat → Prop) (v : Value), k ≤ l.length ∧ i = .int .i64 k ∧ Both p pw (stM N ((symL N l).take k)) v wr S' ∧ Step (fun _ => False) S' w1 wr) (fun i _ => l.length - (intOf i).toNat)
  case atStart => exact ⟨0, S4, _, by omega, rfl, HT.out, ST.out⟩
  case round =>
    clear HT ST hG
    obtain ⟨k, S', v, hk, rfl, hm, hst⟩ := hrel
    have HM := Lib.hid hm
    have ST1 := Lib.hid hst
    clear hm hst
    by_cases hlt : k < l.length
    · have hk4 : (k : Int) < (l.length : Int) := by omega
      have RA := (Ext.trans _ _ _ X1.out (show Ext w1 wr from ST1.out.keep.below (Nat.le_refl _) (fun _ _ x => x))).reads HA.out
      obtain ⟨b, o, rfl, hblt, cx⟩ := RA.at hlt
      have hx0 := HU.out (l.getD k 0) (by rw [List.getD_eq_getElem?_getD, List.getElem?_eq_getElem hlt]; exact List.getElem_mem hlt)
      have hsy := symL_at N hlt
      obtain ⟨x, hx, hxb⟩ : ∃ x : Nat, l.getD k 0 = (x : Int) ∧ x ≤ 255 := ⟨(l.getD k 0).toNat, by omega, by omega⟩
      rw [hx] at cx hsy
      have htx : Int.tmod (x : Int) (N : Int) = ((x % N : Nat) : Int) := by rw [Int.tmod_eq_emod_of_nonneg (by omega)]; rfl
      obtain ⟨s, hs, hsN⟩ : ∃ s, x % N = s ∧ s < N := ⟨_, rfl, Nat.mod_lt _ hN1⟩
      rw [hs] at htx
      have hsy : (symL N l).getD k 0 = s := by rw [hsy]; exact hs
      have hkS : k < (symL N l).length := by rw [symL_len]; exact hlt
      have hlk : ∀ y ∈ (symL N l).take k, y < N := fun y hy => symL_lt hN1 l y (List.mem_of_mem_take hy)
      have hwf := stM_wf hN1 hN2 _ hlk
      have hnext : stM N ((symL N l).take (k + 1)) = seeM (stM N ((symL N l).take k)) s := by rw [take_snocN _ hkS, stM_snoc, hsy]
      have HNX := Lib.hid hnext
      clear hsy hs hx hx0 RA hnext hkS hlk
      generalize stM N ((symL N l).take k) = cs at HM HNX hwf
      have HWL := Lib.hid hwf.2
      have HW := Lib.hid hwf.1
      clear hwf
      have HC := Lib.hid (((see_c (p := p) HW.out s (by rw [HWL.out]; exact hsN)).frame ((Lcl.row 3 .i64 v cs).sep (Lcl.blk pw #[v] 29))) _ _ HM.out)
      have hN0 : ((N : Int) == 0) = false := by rw [beq_eq_false_iff_ne]; omega
      go_wp2_with fail
      refine HC.out.mono ?_
      rintro e w5 ⟨S5, h5, st5⟩
      obtain ⟨rfl, h6⟩ := Sep.fact h5
      obtain ⟨T7, hT7, _⟩ := h6.comm.left
      obtain ⟨T8, hT8, _⟩ := hT7.left
      obtain ⟨Av, cv, rfl, _, hRd, _⟩ := hT8.reads
      obtain ⟨T9, hT9, _⟩ := hT7.comm.left
      have c9 : w5.cell? ⟨pw, 0, none⟩ = some (.slice Av cs.length cv) := hT9.cell 0
      have f9 := hT9.free 0
      have H6 := Lib.hid h6
      have ST5 := Lib.hid (ST1.out.trans st5)
      have hpw5 : pw < w5.heap.size := by
        rcases Nat.lt_or_ge pw w5.heap.size with h | h
        · exact h
        · have hn := hT9.1; rw [Array.getElem?_eq_none h] at hn; cases hn
      have hsN' : s < cs.length := by rw [HWL.out]; exact hsN
      have HRD := Lib.hid hRd
      have HB9 := Lib.hid hT9
      obtain ⟨G5, hG5⟩ : ∃ G5 : Value → World → Prop, G5 = fun v wv => ∃ A' c' S7, v = .agg #[.slice A' cs.length c'] ∧ Row 3 .i64 (.slice A' cs.length c') (seeM cs s) wv S7 ∧ ∀ k, S7 k → w5.heap.size ≤ k := ⟨_, rfl⟩
      obtain ⟨GG, hGG⟩ : ∃ GG : World → Prop, GG = fun wv => ∃ v S9, Both p pw (seeM cs s) v wv S9 ∧ Step S5 S9 w5 wv := ⟨_, rfl⟩
      have HGE : RowKit.Hid (∀ a b, GG a → Ext a b → GG b) := Lib.hid (by
        rw [hGG]
        rintro a b ⟨v, S9, h9, st9⟩ he
        exact ⟨v, S9, Ext.keep (loc_both _ _ _ _) he h9, st9.trans ⟨Keep.of_below he, fun _ h => .inl h⟩⟩)
      have HG5 : RowKit.Hid (∀ v a b, G5 v a → RK (fun k => k = pw) GG a b → G5 v b) := Lib.hid (by
        rw [hG5]
        rintro v a b ⟨A', c', S7, e, h7, hf⟩ hk
        exact ⟨A', c', S7, e, (Lcl.row _ _ _ _).stay h7 hk.1 (fun k x y => by have := hf k x; omega), hf⟩)
      have HPUT : RowKit.Hid (∀ wv A' c' S7, Ext w5 wv → Row 3 .i64 (.slice A' cs.length c') (seeM cs s) wv S7 → (∀ k, S7 k → w5.heap.size ≤ k) → GG (wv.setCell ⟨pw, 0, none⟩ (.slice A' cs.length c'))) := Lib.hid (by
        rw [hGG]
        intro wv A' c' S7 he h7 hf
        obtain ⟨S9, h9, st9⟩ := both_put h6 h7 (⟨Keep.of_below he, fun k hk => .inr (hf k hk)⟩ : Step (fun _ => False) S7 w5 wv)
        exact ⟨_, S9, h9, st9⟩)
      have HSE : RowKit.Hid (∀ w6, Ext w5 w6 → Calls Try.prog 15 #[.agg #[.slice Av cs.length cv], .int .i64 s] w6 fun e w' => ∃ v', e = .returned v' ∧ G5 v' w' ∧ Ext w6 w') := Lib.hid (fun w6 hx6 => by
        refine (rsee_c Av cv cs s w6 (hx6.reads HRD.out) HW.out hsN').mono ?_
        rintro e w' ⟨v', S7, rfl, h7, st7⟩
        obtain ⟨A', c', e7, _⟩ := h7.shape
        rw [(see_wf HW.out hsN').2] at e7
        subst e7
        refine ⟨_, rfl, ?_, st7.keep.below (Nat.le_refl _) (fun _ _ x => x)⟩
        rw [hG5]
        exact ⟨A', c', S7, rfl, h7, fun k hk => by
          rcases st7.fresh k hk with q | q
          · exact absurd q id
          · exact Nat.le_trans hx6.size q⟩)
      replace cx := ((Ext.trans _ _ _ X1.out (show Ext w1 w5 from ST5.out.keep.below (Nat.le_refl _) (fun _ _ x => x))).reads HA.out) k hlt
      clear h5 h6 hT7 hT8 hT9 hRd st5 HC HM ST1 hblt cx f9 H6
      go_wp2_with fail
      refine wp_region_relyD (by kernel_rfl) Ext (RK (fun k => k = pw) GG) 6 63 (RK.ext HGE.out) Ext.refl Ext.trans (RK.refl _ _) (RK.trans _ _) [[(9, none)], [(11, none)], [(51, some 1)], [(7, none)], [(52, some 2), (53, some 3)], [(50, some 0), (54, some 4)], [(9, none), (55, some 5)]] [some 50, some 51, some 52, some 53, some 54, some 55, none] (by kernel_rfl) (by kernel_rfl) (by kernel_rfl) ?_
      apply relyD_const_e (by decide) (by decide); case h => (intro wr hR a h9 K hK; have k9 := hR.undrew.cell c9; go_wp2_with fail; exact Ext.refl _)
      apply relyD_const_e (by decide) (by decide); case h => (intro wr hR a h11 K hK; go_wp2_with fail; exact Ext.refl _)
      apply relyD_const_e (by decide) (by decide); case h => (intro wr hR a h51 K hK; go_wp2_with fail; exact Ext.refl _)
      apply relyD_const_e (by decide) (by decide); case h => (intro wr hR a h7 K hK; go_wp2_with fail; exact Ext.refl _)
      apply relyD_const_e (by decide) (by decide); case h => (intro wr hR a h52 h53 K hK; go_wp2_with fail; exact Ext.refl _)
      refine relyD_rel_e (by decide) (by decide) G5 HG5.out ?h5 ?_
      case h5 =>
        intro wr hR a h50 h54 K hK
        have HK := Lib.hid hK
        clear hK
        go_wp2_with fail
        refine (HSE.out _ hR.undrew).mono ?_
        rintro e w7 ⟨v7, rfl, hg7, hx7⟩
        have HX7 := Lib.hid hx7
        have HG7 := Lib.hid hg7
        clear hg7 hx7
        go_wp2_with fail
        exact HK.out _ _ HX7.out HG7.out
      refine relyD_the rfl (fun _ wv => GG wv) (fun _ _ _ h r => r.2 h) ?h6 ?_
      case h6 =>
        intro wr hR a h9 v55 h55 hg K hK
        have hg' := hg
        rw [hG5] at hg'
        obtain ⟨A', c', S7, rfl, h7, hf⟩ := hg'
        have hE := hR.undrew
        have hb9 := Ext.keep (Lcl.blk _ _ _) hE HB9.out
        have k9 : wr.cell? ⟨pw, 0, none⟩ = some (.slice Av cs.length cv) := hb9.cell 0
        have kf := hb9.free 0
        have HK := Lib.hid hK
        have hgg := HPUT.out wr A' c' S7 hE h7 hf
        have hrk : RK (fun k => k = pw) GG wr (wr.setCell ⟨pw, 0, none⟩ (.slice A' cs.length c')) := ⟨(Keep.refl (fun k => k = pw) wr).setCell (p := ⟨pw, 0, none⟩) (fun _ => rfl) _, fun _ => hgg⟩
        have HRK := Lib.hid hrk
        have HGG := Lib.hid hgg
        clear hK hgg hrk h7 hf hb9 hg
        go_wp2_with fail
        exact HK.out undef _ HRK.out HGG.out
      refine relyD_end ?_
      intro wr hR
      simp only [ends, Act.put, List.setIfInBounds_toArray, List.set_cons_zero, List.set_cons_succ]
      intro v55 hv55 vn hv
      rw [hGG] at hv
      obtain ⟨v9, S9, h9, st9⟩ := hv
      rw [← HNX.out] at h9
      have H9 := Lib.hid h9
      have ST9 := Lib.hid (ST5.out.trans st9)
      clear h9 st9 hR hv55 hG5 hGG HGE HG5 HPUT HSE HRD HB9
      go_wp2_with fail
      exact ⟨⟨k + 1, S9, v9, by omega, by go_num, H9.out, ST9.out⟩, by simp [intOf]; omega⟩
    · obtain rfl : k = l.length := by omega
      have hwf := stM_wf hN1 hN2 (symL N l) (symL_lt hN1 l)
      rw [List.take_of_length_le (by rw [symL_len]; exact Nat.le_refl _)] at HM
      generalize stM N (symL N l) = cs at HM hwf
      have HWL := Lib.hid hwf.2
      have HW := Lib.hid hwf.1
      clear hwf
      obtain ⟨Av, cv, T, rfl, hrd, c9, f9, hmd⟩ := HM.out.facts
      have HRD := Lib.hid hrd
      have HMD := Lib.hid hmd
      have X2 := Lib.hid (Ext.trans _ _ _ X1.out (show Ext w1 wr from ST1.out.keep.below (Nat.le_refl _) (fun _ _ x => x)))
      have hlt0 : 0 < cs.length := by rw [HWL.out]; exact hN1
      have hcs4 := HW.out.all
      clear hrd hmd HM ST1 HA HU X1 f9
      obtain ⟨z, hz⟩ : ∃ z, cs.sum = z := ⟨_, rfl⟩
      have HZ := Lib.hid hz
      rw [hz] at hcs4
      have hz0 : 0 ≤ z := by have := sum_pos HW.out.pos; omega
      have HSZ : RowKit.Hid (∀ wv, Ext wr wv → Calls Try.prog 16 #[.pointer (some ⟨p, 0, none⟩)] wv fun e w' => e = .returned (.int .i64 N) ∧ wv = w') := Lib.hid (fun wv he => by
        have := size_c (Ext.keep (loc_md _ _) he HMD.out) hlt0
        rw [HWL.out] at this
        exact this)
      have HAL : RowKit.Hid (∀ wv, Ext wr wv → Calls Try.prog 17 #[.pointer (some ⟨p, 0, none⟩)] wv fun e w' => e = .returned (.int .i64 z) ∧ wv = w') := Lib.hid (fun wv he => by
        have := all_c (Ext.keep (loc_md _ _) he HMD.out) hlt0
        rw [hz] at this
        exact this)
      have HRA : RowKit.Hid (∀ wv, Ext wr wv → Calls Try.prog 18 #[.agg #[.slice Av cs.length cv]] wv fun e w' => e = .returned (.int .i64 z) ∧ Ext wv w') := Lib.hid (fun wv he => by
        have := rall_c Av cv cs wv (he.reads HRD.out) HW.out.pos (by rw [hz]; omega)
        rw [hz] at this
        exact this)
      clear hz
      go_wp2_with fail
      rename_i Kd hKd K0 hK0 K1 hK1
      clear hKd
      refine wp_region_rely (by kernel_rfl) Ext Ext.refl Ext.trans [[(8, none)], [(57, some 0)], [(7, none)], [(58, some 1), (59, some 2)], [(60, some 3)], [(8, none)], [(62, some 5)], [(9, none)], [(64, some 7)], [(63, some 6), (65, some 8)], [(61, some 4), (66, some 9)]] [some 57, some 58, some 59, some 60, some 61, some 62, some 63, some 64, some 65, some 66, some 67] (by kernel_rfl) (by kernel_rfl) ?_
      apply rely_const; case h => (intro wq hR a h8 K hK; go_wp2_with fail; exact Ext.refl _)
      apply rely_const
      case h =>
        intro wq hR a h57 K hK
        go_wp2_with fail
        refine (HSZ.out _ hR.undrew).mono ?_
        rintro e w2 ⟨rfl, rfl⟩
        go_wp2_with fail
        exact Ext.refl _
      apply rely_const; case h => (intro wq hR a h7 K hK; go_wp2_with fail; exact Ext.refl _)
      apply rely_const; case h => (intro wq hR a h58 h59 K hK; go_wp2_with fail; exact Ext.refl _)
      apply rely_const; case h => (intro wq hR a h60 K hK; go_wp2_with fail; exact Ext.refl _)
      apply rely_const_in _ rfl; case h => (intro wq hR a h8 K hK; go_wp2_with fail; exact Ext.refl _)
      apply rely_const_in _ rfl
      case h =>
        intro wq hR a h62 K hK
        go_wp2_with fail
        refine (HAL.out _ hR.undrew).mono ?_
        rintro e w2 ⟨rfl, rfl⟩
        go_wp2_with fail
        exact Ext.refl _
      apply rely_const_in _ rfl; case h => (intro wq hR a h9 K hK; have k9 := hR.undrew.cell c9; go_wp2_with fail; exact Ext.refl _)
      apply rely_const_in _ rfl
      case h =>
        intro wq hR a h64 K hK
        go_wp2_with fail
        refine (HRA.out _ hR.undrew).mono ?_
        rintro e w2 ⟨rfl, hb⟩
        go_wp2_with fail
        exact hb
      apply rely_const_in _ rfl; case h => (intro wq hR a h63 h65 K hK; go_wp2_with fail; exact Ext.refl _)
      apply rely_const; case h => (intro wq hR a h61 h66 K hK; go_wp2_with fail; exact Ext.refl _)
      refine rely_end ?_
      intro wq hR
      simp only [ends, Act.put, List.setIfInBounds_toArray, List.set_cons_zero, List.set_cons_succ]
      have XQ := Lib.hid hR.undrew
      clear hR
      go_wp2_with fail
      go_loopw [69] (fun i wv => ∃ k : Nat, k ≤ N ∧ i = .int .i64 k ∧ Ext wr wv) (fun i _ => N - (intOf i).toNat)
      case atStart => exact ⟨0, by omega, rfl, XQ.out⟩
      case round =>
        obtain ⟨k, hkN, rfl, hxr⟩ := hrel
        have XR := Lib.hid hxr
        clear hxr
        by_cases hlt : k < N
        · have hk4 : (k : Int) < (N : Int) := by omega
          have hkc : k < cs.length := by rw [HWL.out]; exact hlt
          have hk5 : (k : Int) < (cs.length : Int) := by omega
          have cw := XR.out.cell c9
          have HMI := Lib.hid (Ext.keep (loc_md _ _) XR.out HMD.out)
          have HRI := Lib.hid (XR.out.reads HRD.out)
          obtain ⟨b, o, rfl, _, ck⟩ := HRI.out k hkc
          have b1 := count_le HW.out.pos hkc
          have b2 := start_pos HW.out.pos k
          have b3 := HW.out.pos _ (getD_mem hkc)
          have f1 := find_uniq cs (startM cs k) 0 k hkc HW.out.pos (Int.le_refl _) (by omega)
          have f2 := find_uniq cs (startM cs k + cs.getD k 0 - 1) 0 k hkc HW.out.pos (by omega) (by omega)
          rw [Nat.zero_add] at f1 f2
          rw [HZ.out] at b1
          have HP : RowKit.Hid (∀ wv, Ext wr wv → Calls Try.prog 19 #[.pointer (some ⟨p, 0, none⟩), .int .i64 k] wv fun e w' => e = .returned (.tuple #[.int .i64 (startM cs k), .int .i64 (cs.getD k 0)]) ∧ Ext wv w') := Lib.hid (fun wv he => part_c (Ext.keep (loc_md _ _) he HMI.out) HW.out k hkc)
          have HS : RowKit.Hid (∀ wv, Ext wr wv → Calls Try.prog 20 #[.agg #[.slice (some ⟨b, o, none⟩) cs.length cv], .int .i64 k] wv fun e w' => e = .returned (.int .i64 (startM cs k)) ∧ Ext wv w') := Lib.hid (fun wv he => rstart_c _ cv cs k wv (he.reads HRI.out) HW.out.pos (by rw [HZ.out]; omega) (by omega))
          have HF1 : RowKit.Hid (∀ wv, Ext wr wv → Calls Try.prog 21 #[.pointer (some ⟨p, 0, none⟩), .int .i64 (startM cs k)] wv fun e w' => e = .returned (.int .i64 k) ∧ wv = w') := Lib.hid (fun wv he => by
            have := find_c (Ext.keep (loc_md _ _) he HMI.out) HW.out (startM cs k) b2 (by rw [HZ.out]; omega)
            rw [f1] at this; exact this)
          have HF2 : RowKit.Hid (∀ wv, Ext wr wv → Calls Try.prog 21 #[.pointer (some ⟨p, 0, none⟩), .int .i64 (startM cs k + cs.getD k 0 - 1)] wv fun e w' => e = .returned (.int .i64 k) ∧ wv = w') := Lib.hid (fun wv he => by
            have := find_c (Ext.keep (loc_md _ _) he HMI.out) HW.out (startM cs k + cs.getD k 0 - 1) (by omega) (by rw [HZ.out]; omega)
            rw [f2] at this; exact this)
          clear f1 f2
          generalize startM cs k = st at HP HS HF1 HF2 b1 b2
          generalize cs.getD k 0 = ct at HP HS HF1 HF2 b1 b3 ck
          have hst4 : st ≤ 4096 := by omega
          have hct4 : ct ≤ 4096 := by omega
          go_wp2_with fail
          refine (HP.out _ (Ext.refl _)).mono ?_
          rintro e w5 ⟨rfl, hx5⟩
          have X5 := Lib.hid hx5
          have cw5 := hx5.cell cw
          have ck5 := hx5.cell ck
          clear hx5 cw ck HP
          go_wp2_with fail
          refine (HS.out _ X5.out).mono ?_
          rintro e w6 ⟨rfl, hx6⟩
          have X6 := Lib.hid (Ext.trans _ _ _ X5.out hx6)
          have cw6 := hx6.cell cw5
          have ck6 := hx6.cell ck5
          clear hx6 cw5 ck5 HS
          go_wp2_with fail
          refine (HF1.out _ X6.out).mono ?_
          rintro e w7 ⟨rfl, rfl⟩
          go_wp2_with fail
          refine (HF2.out _ X6.out).mono ?_
          rintro e w7 ⟨rfl, rfl⟩
          go_wp2_with fail
          exact ⟨⟨k + 1, by omega, by go_num, Ext.trans _ _ _ XR.out X6.out⟩, by simp [intOf]; omega⟩
        · obtain rfl : k = N := by omega
          have HX3 := Lib.hid (Ext.trans _ _ _ X2.out XR.out)
          have HMD3 := Lib.hid (Ext.keep (loc_md _ _) XR.out HMD.out)
          have HB3 := Lib.hid (HX3.out.reads HB.out)
          clear c9 HRD HMD HRA HSZ HAL X2 XQ XR HB
          go_wp2_with fail
          rename_i Kx hKx Ky hKy
          clear hKx
          go_loopw [112] (fun i wv => ∃ j : Nat, j ≤ pl.length ∧ i = .int .i64 j ∧ Ext wr wv) (fun i _ => pl.length - (intOf i).toNat)
          case atStart => exact ⟨0, by omega, rfl, Ext.refl _⟩
          case round =>
            obtain ⟨j, hj, rfl, hxr⟩ := hrel
            have XR := Lib.hid hxr
            have HMR := Lib.hid (Ext.keep (loc_md _ _) hxr HMD3.out)
            clear hxr
            by_cases hlj : j < pl.length
            · have hj4 : (j : Int) < (pl.length : Int) := by omega
              obtain ⟨b, o, rfl, _, cx⟩ := (XR.out.reads HB3.out) j hlj
              have hx0 := HV.out (pl.getD j 0) (by rw [List.getD_eq_getElem?_getD, List.getElem?_eq_getElem hlj]; exact List.getElem_mem hlj)
              obtain ⟨X, hX, hXb⟩ : ∃ X : Nat, pl.getD j 0 = (X : Int) ∧ X ≤ 65535 := ⟨(pl.getD j 0).toNat, by omega, by omega⟩
              rw [hX] at cx
              clear hx0 hX
              have HALR := Lib.hid (all_c HMR.out hlt0)
              rw [HZ.out] at HALR
              rcases Int.lt_or_le (X : Int) z with hxz | hxz
              · obtain ⟨s, e1, hsl, b1, b2⟩ := find_spec cs (X : Int) 0 HW.out.pos (by omega) (by rw [HZ.out]; exact hxz)
                rw [Nat.zero_add] at e1
                have HF := Lib.hid (find_c HMR.out HW.out (X : Int) (by omega) (by rw [HZ.out]; exact hxz))
                rw [e1] at HF
                have HP := Lib.hid (part_c HMR.out HW.out s hsl)
                have hsc := HW.out.le
                have b3 := count_le HW.out.pos hsl
                have b4 := start_pos HW.out.pos s
                have b5 := HW.out.pos _ (getD_mem hsl)
                rw [HZ.out] at b3
                clear e1
                generalize startM cs s = st at HP b1 b2 b3 b4
                generalize cs.getD s 0 = ct at HP b2 b3 b5
                have d1 : decide ((X : Int) < z) = true := by simpa using hxz
                have d2 : decide ((X : Int) < st) = false := by simp; omega
                have d3 : decide (st + ct ≤ (X : Int)) = false := by simp; omega
                have hst4 : st ≤ 4096 := by omega
                have hct4 : ct ≤ 4096 := by omega
                go_wp2_with fail
                refine HF.out.mono ?_
                rintro e w5 ⟨rfl, rfl⟩
                go_wp2_with fail
                refine HALR.out.mono ?_
                rintro e w5 ⟨rfl, rfl⟩
                go_wp2_with fail
                refine HP.out.mono ?_
                rintro e w5 ⟨rfl, hx5⟩
                have X5 := Lib.hid (Ext.trans _ _ _ XR.out hx5)
                clear hx5 HF HALR HP
                go_wp2_with fail
                exact ⟨⟨j + 1, by omega, by go_num, X5.out⟩, by simp [intOf]; omega⟩
              · have HF := Lib.hid (find_out HMR.out hlt0 (X : Int) (.inr (by rw [HZ.out]; exact hxz)))
                have HP := Lib.hid (part_out HMR.out hlt0 (-1) (.inl (by decide)))
                have d1 : decide ((X : Int) < z) = false := by simp; omega
                go_wp2_with fail
                refine HF.out.mono ?_
                rintro e w5 ⟨rfl, rfl⟩
                go_wp2_with fail
                refine HALR.out.mono ?_
                rintro e w5 ⟨rfl, rfl⟩
                go_wp2_with fail
                refine HP.out.mono ?_
                rintro e w5 ⟨rfl, rfl⟩
                go_wp2_with fail
                exact ⟨⟨j + 1, by omega, by go_num, XR.out⟩, by simp [intOf]; omega⟩
            · obtain rfl : j = pl.length := by omega
              have HALR := Lib.hid (all_c HMR.out hlt0)
              rw [HZ.out] at HALR
              have d1 : decide (z ≤ 4096) = true := by simpa using hcs4
              go_wp2_with fail
              refine HALR.out.mono ?_
              rintro e w5 ⟨rfl, rfl⟩
              go_wp2_with fail
              go_ret
              exact ⟨rfl, Ext.trans _ _ _ HX3.out XR.out⟩
end Go.Proofs.Ytoijcblldeahiaa.Model
