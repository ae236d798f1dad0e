/- P20.1: two frames have the same bytes just if they are the same: at every input, without conditions. -/
import Derived.Test.YtfpeeilenocaoaaFrameP
import Derived.Test.YtfpeeilenocaoaaFrameR
namespace Go.Proofs.Ytfpeeilenocaoaa.Frame
open Go.RowKit Go.Proofs.Ytfpeeilenocaoaa.Own Go.Proofs.Ytfpeeilenocaoaa.Rely Go.Proofs.Ytfpeeilenocaoaa.Crc
attribute [local go_sem] max_ints min_ints

/-- One step from a known world to a known one. -/
def OneW (x y : World) (a b : World) : Prop := a = b ∨ (a = x ∧ b = y)
theorem OneW.refl (x y a : World) : OneW x y a a := .inl rfl
theorem OneW.trans (x y a b c : World) (h : OneW x y a b) (k : OneW x y b c) : OneW x y a c := by
  rcases h with rfl | ⟨h1, h2⟩
  · exact k
  · rcases k with rfl | ⟨_, k2⟩
    · exact .inr ⟨h1, h2⟩
    · exact .inr ⟨h1, k2⟩
theorem OneW.end_ {x y a b : World} (h : OneW x y a b) (ha : a = y) : b = y := by
  rcases h with rfl | ⟨_, h2⟩
  · exact ha
  · exact h2
/-- A frame in memory. -/
structure Fr (p : Nat) (n : List Int) (k : Nat) (A : Option Addr) (y : List Int) (c : Nat) (w : World) : Prop where
  blk : Blk p #[.string (strOfNums n), .int .u8 k, .slice A y.length c] 30 w (fun q => q = p)
  nb : IsBytes n
  n1 : 1 ≤ n.length
  n2 : n.length ≤ 255
  kb : k < 6
  yb : IsBytes y
  yl : y.length ≤ 100
  rd : Reads w .u8 A y
theorem Fr.ext {p : Nat} {n : List Int} {k : Nat} {A : Option Addr} {y : List Int} {c : Nat} {w w' : World} (h : Fr p n k A y c w) (x : Ext w w') : Fr p n k A y c w' :=
  ⟨Ext.keep (Lcl.blk _ _ _) x h.blk, h.nb, h.n1, h.n2, h.kb, h.yb, h.yl, x.reads h.rd⟩
theorem Fr.ok {p : Nat} {n : List Int} {k : Nat} {A : Option Addr} {y : List Int} {c : Nat} {w : World} (h : Fr p n k A y c w) : checkF n.length k y.length = 0 :=
  checkF_ok.2 ⟨h.n1, h.n2, h.kb, by have := h.yl; omega⟩
theorem str_ne {a b : List Int} (ha : IsBytes a) (hb : IsBytes b) (h : ¬ a = b) : ¬ (strOfNums a).toList = (strOfNums b).toList := fun e => h (str_inj ha hb e)
set_option maxHeartbeats 16000000 in
set_option maxRecDepth 20000 in
theorem apart_yy (A1 : Option Addr) (c1 : Nat) (nm : List Int) (k : Nat) (A2 : Option Addr) (c2 : Nat) (pay : List Int) (B1 : Option Addr) (d1 : Nat) (nn : List Int) (l : Nat) (B2 : Option Addr) (d2 : Nat) (qay : List Int) (m : Nat) (w : World)
    (HN : RowKit.Hid (Reads w .u8 A1 nm)) (HR : RowKit.Hid (Reads w .u8 A2 pay)) (HM : RowKit.Hid (Reads w .u8 B1 nn)) (HQ : RowKit.Hid (Reads w .u8 B2 qay)) (HNB : RowKit.Hid (IsBytes nm)) (HB : RowKit.Hid (IsBytes pay)) (HMB : RowKit.Hid (IsBytes nn)) (HQB : RowKit.Hid (IsBytes qay))
    (hk : k ≤ 255) (hl : l ≤ 255) (hm2 : Int.tmod (m : Int) 2 = 0) (hm3 : Int.tmod (m : Int) 3 = 0) :
    Calls Try.prog 6 #[.agg #[.slice A1 nm.length c1, .int .u8 k, .slice A2 pay.length c2], .agg #[.slice B1 nn.length d1, .int .u8 l, .slice B2 qay.length d2], .int .u8 m] w fun e w' => e = .returned (.bool true) ∧ Below w.heap.size w w' := by
  have hx0 : Ext w (w.alloc (.cells #[.slice A1 nm.length c1, .int .u8 k, .slice A2 pay.length c2] 24)) := (Below.refl _ _).alloc (Nat.le_refl _) _
  have hb0 := heap_alloc_new w (.cells #[.slice A1 nm.length c1, .int .u8 k, .slice A2 pay.length c2] 24)
  have hs0 : (w.alloc (.cells #[.slice A1 nm.length c1, .int .u8 k, .slice A2 pay.length c2] 24)).heap.size = w.heap.size + 1 := by simp
  obtain ⟨wa, hwa⟩ : ∃ wa, w.alloc (.cells #[.slice A1 nm.length c1, .int .u8 k, .slice A2 pay.length c2] 24) = wa := ⟨_, rfl⟩
  rw [hwa] at hx0 hb0 hs0
  have hx1 : Ext wa (wa.alloc (.cells #[.slice B1 nn.length d1, .int .u8 l, .slice B2 qay.length d2] 24)) := (Below.refl _ _).alloc (Nat.le_refl _) _
  have hb1 := heap_alloc_new wa (.cells #[.slice B1 nn.length d1, .int .u8 l, .slice B2 qay.length d2] 24)
  have HX := Lib.hid (Ext.trans _ _ _ hx0 hx1)
  have HS := Lib.hid ((hx1.block _ (Array.getElem?_eq_some_iff.1 hb0).1).trans hb0)
  rw [hs0] at hb1
  have HT := Lib.hid hb1
  clear hx0 hb0 hx1 hb1
  go_enter Try.func6, Try.ntmps6
  go_wp2_with fail
  refine (awake20 _).mono ?_
  rintro e w1 ⟨rfl, hx1⟩
  have X1 := Lib.hid (Ext.trans _ _ _ HX.out hx1)
  have HS1 := Lib.hid (show Blk w.heap.size #[.slice A1 nm.length c1, .int .u8 k, .slice A2 pay.length c2] 24 w1 (fun q => q = w.heap.size) from ⟨(hx1.block _ (Array.getElem?_eq_some_iff.1 HS.out).1).trans HS.out, fun _ => Iff.rfl⟩)
  have HT1 := Lib.hid (show Blk (w.heap.size + 1) #[.slice B1 nn.length d1, .int .u8 l, .slice B2 qay.length d2] 24 w1 (fun q => q = w.heap.size + 1) from ⟨(hx1.block _ (Array.getElem?_eq_some_iff.1 HT.out).1).trans HT.out, fun _ => Iff.rfl⟩)
  clear hx1 HX HS HT hwa hs0
  obtain ⟨pS, hpS⟩ : ∃ pS, w.heap.size = pS := ⟨_, rfl⟩
  have s0 : w1.cell? ⟨w.heap.size, 0, none⟩ = some (.slice A1 nm.length c1) := HS1.out.cell 0
  have s1 : w1.cell? ⟨w.heap.size, 1, none⟩ = some (.int .u8 k) := HS1.out.cell 1
  have s2 : w1.cell? ⟨w.heap.size, 2, none⟩ = some (.slice A2 pay.length c2) := HS1.out.cell 2
  have t0 : w1.cell? ⟨w.heap.size + 1, 0, none⟩ = some (.slice B1 nn.length d1) := HT1.out.cell 0
  have t1 : w1.cell? ⟨w.heap.size + 1, 1, none⟩ = some (.int .u8 l) := HT1.out.cell 1
  have t2 : w1.cell? ⟨w.heap.size + 1, 2, none⟩ = some (.slice B2 qay.length d2) := HT1.out.cell 2
  have tf := HT1.out.free 2
  clear hpS
  by_cases q1 : 100 < nm.length
  · have g1 : decide ((100 : Int) < (nm.length : Int)) = true := by simp; omega
    go_wp2_with fail
    go_ret
    exact ⟨rfl, X1.out⟩
  have g1 : decide ((100 : Int) < (nm.length : Int)) = false := by simp; omega
  by_cases q2 : 100 < nn.length
  · have g2 : decide ((100 : Int) < (nn.length : Int)) = true := by simp; omega
    go_wp2_with fail
    go_ret
    exact ⟨rfl, X1.out⟩
  have g2 : decide ((100 : Int) < (nn.length : Int)) = false := by simp; omega
  by_cases q3 : 100 < pay.length
  · have g3 : decide ((100 : Int) < (pay.length : Int)) = true := by simp; omega
    go_wp2_with fail
    go_ret
    exact ⟨rfl, X1.out⟩
  have g3 : decide ((100 : Int) < (pay.length : Int)) = false := by simp; omega
  by_cases q4 : 100 < qay.length
  · have g4 : decide ((100 : Int) < (qay.length : Int)) = true := by simp; omega
    go_wp2_with fail
    go_ret
    exact ⟨rfl, X1.out⟩
  have g4 : decide ((100 : Int) < (qay.length : Int)) = false := by simp; omega
  go_wp2_with fail
  have hd : Ext w1 w1.drew := (Ext.refl _).drew
  have X1d := Lib.hid (X1.out.drew)
  have HS1d := Lib.hid (Ext.keep (Lcl.blk _ _ _) hd HS1.out)
  have HT1d := Lib.hid (Ext.keep (Lcl.blk _ _ _) hd HT1.out)
  clear hd s0 s1 s2 t0 t1 t2 tf HS1 HT1
  refine wp_region_next (by kernel_rfl) ?_
  generalize w1.drew = w2 at X1d HS1d HT1d ⊢
  have hY1 := HT1d.out.set 0 (.slice A1 nm.length c1)
  obtain ⟨y1, hy1⟩ : ∃ y1, w2.setCell ⟨w.heap.size + 1, 0, none⟩ (.slice A1 nm.length c1) = y1 := ⟨_, rfl⟩
  rw [hy1] at hY1
  have HY1 := Lib.hid hy1
  have HTy := Lib.hid (show Blk (w.heap.size + 1) #[.slice A1 nm.length c1, .int .u8 l, .slice B2 qay.length d2] 24 y1 (fun q => q = w.heap.size + 1) from hY1.1)
  have HKy := Lib.hid hY1.2.keep
  have HSy := Lib.hid ((Lcl.blk _ _ _).stay HS1d.out hY1.2.keep (fun x hx hz => by have hx' : x = w.heap.size := hx; have hz' : x = w.heap.size + 1 := hz; omega))
  clear hY1 hy1
  refine next_win 0 6 (fun a b => a = b) (OneW w2 y1) 5 19 (fun _ _ h => .inl h) (fun _ => rfl) (fun _ _ _ h k => h.trans k) (OneW.refl _ _) (OneW.trans _ _) [[(3, none)], [(41, some 0)], [(3, none)], [(43, some 2)], [(4, none)], [(45, some 4), (42, some 1)]] [some 41, some 42, some 43, some 44, some 45, none] (by kernel_rfl) (by kernel_rfl) (by kernel_rfl) (by kernel_rfl) ?_
  intro Nx hNx
  apply relyD_const_e (by decide) (by decide); case h => (intro wr hR a' h3 K hK; go_wp2_with fail; rfl)
  apply relyD_const_e (by decide) (by decide); case h => (rintro wr rfl a' h41 K hK; have k9 := HS1d.out.cell 0; go_wp2_with fail; rfl)
  apply relyD_const (by decide) (by decide); case h => (intro wr hR a' h3 K hK; go_wp2_with fail; rfl)
  apply relyD_const (by decide) (by decide)
  case h =>
    intro wr hR a' h43 K hK
    have k9 : wr.cell? ⟨w.heap.size, 1, none⟩ = some (.int .u8 k) := by
      rcases hR with rfl | ⟨_, rfl⟩
      · exact HS1d.out.cell 1
      · exact HSy.out.cell 1
    go_wp2_with fail
    rfl
  apply relyD_const_e (by decide) (by decide); case h => (intro wr hR a' h4 K hK; go_wp2_with fail; rfl)
  refine relyD_the rfl (fun v w => w = y1) (fun v w w' h r => r.end_ h) ?h5 ?_
  case h5 =>
    rintro wr rfl a' h45 h42 K hK
    have k9 := HT1d.out.cell 0
    have kf := HT1d.out.free 0
    have HK := Lib.hid (hK undef _ (.inr ⟨rfl, rfl⟩) rfl)
    rw [← HY1.out] at HK
    clear hK
    go_wp2_with fail
    exact HK.out
  refine relyD_end ?_
  intro wr hR
  simp only [had, List.take_succ_cons, List.take_zero, List.map_cons, List.map_nil, List.cons_append, List.nil_append, ends, Act.put, List.setIfInBounds_toArray, List.set_cons_zero, List.set_cons_succ]
  intro v5 hv5; obtain rfl := hv5.symm
  refine hNx _ _ ?_
  have X5 := Lib.hid (show Ext w y1 from Below.trans X1d.out (HKy.out.below X1d.out.size (fun x hx hz => by have hz' : x = w.heap.size + 1 := hz; omega)))
  have hY2 := HTy.out.set 1 (.int .u8 k)
  obtain ⟨y2, hy2⟩ : ∃ y2, y1.setCell ⟨w.heap.size + 1, 1, none⟩ (.int .u8 k) = y2 := ⟨_, rfl⟩
  rw [hy2] at hY2
  have HY2 := Lib.hid hy2
  have HT4 := Lib.hid (show Blk (w.heap.size + 1) #[.slice A1 nm.length c1, .int .u8 k, .slice B2 qay.length d2] 24 y2 (fun q => q = w.heap.size + 1) from hY2.1)
  have HS4 := Lib.hid ((Lcl.blk _ _ _).stay HSy.out hY2.2.keep (fun x hx hz => by have hx' : x = w.heap.size := hx; have hz' : x = w.heap.size + 1 := hz; omega))
  have X4 := Lib.hid (show Ext w y2 from Below.trans X5.out (hY2.2.keep.below X5.out.size (fun x hx hz => by have hz' : x = w.heap.size + 1 := hz; omega)))
  clear hR hY2 hy2 HS1d HT1d HY1 HKy X1d
  refine next_win 6 8 (fun a b => a = b) (OneW y1 y2) 7 127 (fun _ _ h => .inl h) (fun _ => rfl) (fun _ _ _ h k => h.trans k) (OneW.refl _ _) (OneW.trans _ _) [[(4, none)], [(46, some 6), (44, none)]] [none, none, none, none, none, none, some 46, none] (by kernel_rfl) (by kernel_rfl) (by kernel_rfl) (by kernel_rfl) ?_
  intro Ny hNy
  apply relyD_const_e (by decide) (by decide); case h => (intro wr hR a' h4 K hK; go_wp2_with fail; rfl)
  refine relyD_the rfl (fun v w => w = y2) (fun v w w' h r => r.end_ h) ?h7 ?_
  case h7 =>
    rintro wr rfl a' h46 h44 K hK
    have k9 := HTy.out.cell 1
    have kf := HTy.out.free 1
    have HK := Lib.hid (hK undef _ (.inr ⟨rfl, rfl⟩) rfl)
    rw [← HY2.out] at HK
    clear hK
    go_wp2_with fail
    exact HK.out
  refine relyD_end ?_
  intro wr hR
  simp only [had, List.take_succ_cons, List.take_zero, List.map_cons, List.map_nil, List.cons_append, List.nil_append, ends, Act.put, List.setIfInBounds_toArray, List.set_cons_zero, List.set_cons_succ]
  intro v7 hv7; obtain rfl := hv7.symm
  refine hNy _ _ ?_
  refine next_done rfl ?_
  try simp only [Act.put, List.setIfInBounds_toArray, List.set_cons_zero, List.set_cons_succ]
  clear hR HSy HTy HY2 X5
  have s2 : y2.cell? ⟨w.heap.size, 2, none⟩ = some (.slice A2 pay.length c2) := HS4.out.cell 2
  have t2 : y2.cell? ⟨w.heap.size + 1, 2, none⟩ = some (.slice B2 qay.length d2) := HT4.out.cell 2
  have tf := HT4.out.free 2
  go_wp2_with fail
  have hY3 := HT4.out.set 2 (.slice A2 pay.length c2)
  generalize y2.setCell ⟨w.heap.size + 1, 2, none⟩ (.slice A2 pay.length c2) = y3 at hY3 ⊢
  have HT6 := Lib.hid (show Blk (w.heap.size + 1) #[.slice A1 nm.length c1, .int .u8 k, .slice A2 pay.length c2] 24 y3 (fun q => q = w.heap.size + 1) from hY3.1)
  have HS6 := Lib.hid ((Lcl.blk _ _ _).stay HS4.out hY3.2.keep (fun x hx hz => by have hx' : x = w.heap.size := hx; have hz' : x = w.heap.size + 1 := hz; omega))
  have X6 := Lib.hid (show Ext w y3 from Below.trans X4.out (hY3.2.keep.below X4.out.size (fun x hx hz => by have hz' : x = w.heap.size + 1 := hz; omega)))
  clear hY3 tf
  have HN6 := Lib.hid (Ext.reads X6.out HN.out)
  have HR6 := Lib.hid (Ext.reads X6.out HR.out)
  have HM6 := Lib.hid (Ext.reads X6.out HM.out)
  have HQ6 := Lib.hid (Ext.reads X6.out HQ.out)
  clear HT4 HS4 X4
  go_wp2_with fail
  refine wp_region_next (by kernel_rfl) ?_
  refine next_win 0 6 Ext Ext 999 0 (fun _ _ h => h) Ext.refl Ext.trans Ext.refl Ext.trans [[(3, none)], [(53, some 0)], [(4, none)], [(55, some 2)], [], []] [some 53, some 54, some 55, some 56, some 7, some 8] (by kernel_rfl) (by kernel_rfl) (by kernel_rfl) (by kernel_rfl) ?_
  intro Nx hNx
  apply relyD_const (by decide) (by decide); case h => (intro wr hR a' h3 K hK; have HB := Ext.keep (Lcl.blk _ _ _) hR.undrew HS6.out; have j0 := HB.cell 0; have j1 := HB.cell 1; have j2 := HB.cell 2; clear HB; go_wp2_with fail; exact Ext.refl _)
  apply relyD_const (by decide) (by decide)
  case h =>
    intro wr hR a' h53 K hK
    have HK := Lib.hid hK
    clear hK
    go_wp2_with fail
    refine (small_c A1 A2 c1 c2 pay.length nm k wr (hR.undrew.reads HN6.out) (by omega) (by omega)).mono ?_
    rintro e w8 ⟨rfl, hx8⟩
    go_wp2_with fail
    exact HK.out _ hx8
  apply relyD_const (by decide) (by decide); case h => (intro wr hR a' h4 K hK; have HB := Ext.keep (Lcl.blk _ _ _) hR.undrew HT6.out; have j0 := HB.cell 0; have j1 := HB.cell 1; have j2 := HB.cell 2; clear HB; go_wp2_with fail; exact Ext.refl _)
  apply relyD_const (by decide) (by decide)
  case h =>
    intro wr hR a' h55 K hK
    have HK := Lib.hid hK
    clear hK
    go_wp2_with fail
    refine (small_c A1 A2 c1 c2 pay.length nm k wr (hR.undrew.reads HN6.out) (by omega) (by omega)).mono ?_
    rintro e w8 ⟨rfl, hx8⟩
    go_wp2_with fail
    exact HK.out _ hx8
  refine relyD_rel (by decide) (by decide) (fun v w => ∃ p, v = .pointer (some ⟨p, 0, none⟩) ∧ y3.heap.size ≤ p ∧ Blk p #[.string ⟨#[]⟩, .int .u8 0, .slice none 0 0] 30 w (fun q => q = p)) (fun v w w' ⟨p, e, hp, h⟩ x => ⟨p, e, hp, Ext.keep (Lcl.blk _ _ _) x h⟩) ?h4 ?_
  case h4 =>
    intro wr hR a' K hK
    have hnb := heap_alloc_new wr (.cells #[.string ⟨#[]⟩, .int .u8 0, .slice none 0 0] 30)
    have HK := Lib.hid (hK _ _ ((Below.refl _ _).alloc (Nat.le_refl _) _) ⟨wr.heap.size, rfl, hR.undrew.size, hnb, fun _ => Iff.rfl⟩)
    clear hK hnb
    go_wp2_with fail
    exact HK.out
  refine relyD_rel (by decide) (by decide) (fun v w => ∃ p, v = .pointer (some ⟨p, 0, none⟩) ∧ y3.heap.size ≤ p ∧ Blk p #[.string ⟨#[]⟩, .int .u8 0, .slice none 0 0] 30 w (fun q => q = p)) (fun v w w' ⟨p, e, hp, h⟩ x => ⟨p, e, hp, Ext.keep (Lcl.blk _ _ _) x h⟩) ?h5 ?_
  case h5 =>
    intro wr hR a' K hK
    have hnb := heap_alloc_new wr (.cells #[.string ⟨#[]⟩, .int .u8 0, .slice none 0 0] 30)
    have HK := Lib.hid (hK _ _ ((Below.refl _ _).alloc (Nat.le_refl _) _) ⟨wr.heap.size, rfl, hR.undrew.size, hnb, fun _ => Iff.rfl⟩)
    clear hK hnb
    go_wp2_with fail
    exact HK.out
  refine relyD_end ?_
  intro wr hR
  simp only [had, List.take_succ_cons, List.take_zero, List.map_cons, List.map_nil, List.cons_append, List.nil_append, ends, Act.put, List.setIfInBounds_toArray, List.set_cons_zero, List.set_cons_succ]
  rintro v4 ⟨p7, rfl, hp7, hb7⟩ v5 ⟨p8, rfl, hp8, hb8⟩
  refine hNx _ _ ?_
  have hE := hR.undrew
  have X9 := Lib.hid (Ext.trans _ _ _ X6.out hE)
  have HR9 := Lib.hid (hE.reads HR6.out)
  have HQ9 := Lib.hid (hE.reads HQ6.out)
  have hsz9 := Nat.le_trans X6.out.size hp7
  have hsz8 := Nat.le_trans X6.out.size hp8
  clear hR hE HS6 HT6 HN6 HR6 HM6 HQ6 X6 hp7 hp8
  obtain ⟨nb, hnb⟩ : ∃ nb, nameS nm = nb := ⟨_, rfl⟩
  rw [hnb]
  have hnl := nameS_len nm
  have HNS := Lib.hid (nameS_bytes HNB.out)
  rw [hnb] at hnl HNS
  obtain ⟨K6, hK6, hK6b⟩ : ∃ K6, k % 6 = K6 ∧ K6 < 6 := ⟨_, rfl, Nat.mod_lt _ (by omega)⟩
  have hK6i : (k : Int) % 6 = (K6 : Int) := by omega
  rw [hK6i]
  clear hK6 hK6i hnb
  obtain ⟨z0, hz0⟩ : ∃ z0, (wr).setCell ⟨p7, 0, none⟩ (.string (strOfNums nb)) = z0 := ⟨_, rfl⟩
  have Bz0 := hb7.set 0 (.string (strOfNums nb))
  rw [hz0] at Bz0
  have jz0 : (wr).cell? ⟨p7, 0, none⟩ = some (.string ⟨#[]⟩) := hb7.cell 0
  have fz0 := hb7.free 0
  have Dz0 : Blk p7 #[.string (strOfNums nb), .int .u8 0, .slice none 0 0] 30 z0 (fun q => q = p7) := Bz0.1
  have Kz0 := Bz0.2.keep
  clear Bz0
  obtain ⟨z1, hz1⟩ : ∃ z1, (z0).setCell ⟨p7, 1, none⟩ (.int .u8 K6) = z1 := ⟨_, rfl⟩
  have Bz1 := Dz0.set 1 (.int .u8 K6)
  rw [hz1] at Bz1
  have jz1 : (z0).cell? ⟨p7, 1, none⟩ = some (.int .u8 0) := Dz0.cell 1
  have fz1 := Dz0.free 1
  have Dz1 : Blk p7 #[.string (strOfNums nb), .int .u8 K6, .slice none 0 0] 30 z1 (fun q => q = p7) := Bz1.1
  have Kz1 := Bz1.2.keep
  clear Bz1
  obtain ⟨z2, hz2⟩ : ∃ z2, (z1).setCell ⟨p7, 2, none⟩ (.slice A2 pay.length c2) = z2 := ⟨_, rfl⟩
  have Bz2 := Dz1.set 2 (.slice A2 pay.length c2)
  rw [hz2] at Bz2
  have jz2 : (z1).cell? ⟨p7, 2, none⟩ = some (.slice none 0 0) := Dz1.cell 2
  have fz2 := Dz1.free 2
  have Dz2 : Blk p7 #[.string (strOfNums nb), .int .u8 K6, .slice A2 pay.length c2] 30 z2 (fun q => q = p7) := Bz2.1
  have Kz2 := Bz2.2.keep
  clear Bz2
  refine next_win 6 7 (fun a b => a = b) (OneW wr z2) 6 63 (fun _ _ h => .inl h) (fun _ => rfl) (fun _ _ _ h k => h.trans k) (OneW.refl _ _) (OneW.trans _ _) [[(7, none), (54, none)]] [none, none, none, none, none, none, none] (by kernel_rfl) (by kernel_rfl) (by kernel_rfl) (by kernel_rfl) ?_
  intro Ny hNy
  refine relyD_the rfl (fun v w => w = z2) (fun v w w' h r => r.end_ h) ?h6 ?_
  case h6 =>
    intro wq hwq a' hp ht K hK
    subst hwq
    have HK := Lib.hid (hK undef _ (.inr ⟨rfl, rfl⟩) rfl)
    clear hK
    go_wp2_with fail
    exact HK.out
  refine relyD_end ?_
  intro wz hR
  simp only [had, List.take_succ_cons, List.take_zero, List.map_cons, List.map_nil, List.cons_append, List.nil_append, ends, Act.put, List.setIfInBounds_toArray, List.set_cons_zero, List.set_cons_succ]
  intro vz hvz; obtain rfl := hvz.symm
  refine hNy _ _ ?_
  clear hR
  obtain ⟨a0, a1, a2, hb8q⟩ : ∃ a0 a1 a2, Blk p8 #[a0, a1, a2] 30 z2 (fun q => q = p8) := by
    by_cases hpp : p7 = p8
    · subst hpp
      exact ⟨_, _, _, Dz2⟩
    · refine ⟨_, _, _, (Lcl.blk _ _ _).stay ((Lcl.blk _ _ _).stay ((Lcl.blk _ _ _).stay hb8 Kz0 ?_) Kz1 ?_) Kz2 ?_⟩ <;> (intro x hx hz; have hx' : x = p8 := hx; have hz' : x = p7 := hz; omega)
  have X10 := Lib.hid (show Ext w z2 from Below.trans (Below.trans (Below.trans X9.out (Kz0.below X9.out.size (fun x hx hz => by have hz' : x = p7 := hz; omega))) (Kz1.below (Nat.le_trans X9.out.size Kz0.size) (fun x hx hz => by have hz' : x = p7 := hz; omega))) (Kz2.below (Nat.le_trans (Nat.le_trans X9.out.size Kz0.size) Kz1.size) (fun x hx hz => by have hz' : x = p7 := hz; omega)))
  clear hz0 hz1 hz2 jz0 jz1 jz2 fz0 fz1 fz2 hb7 hb8 Dz0 Dz1
  obtain ⟨u0, hu0⟩ : ∃ u0, (z2).setCell ⟨p8, 0, none⟩ (.string (strOfNums nb)) = u0 := ⟨_, rfl⟩
  have Bu0 := hb8q.set 0 (.string (strOfNums nb))
  rw [hu0] at Bu0
  have ju0 : (z2).cell? ⟨p8, 0, none⟩ = some (a0) := hb8q.cell 0
  have fu0 := hb8q.free 0
  have Du0 : Blk p8 #[.string (strOfNums nb), a1, a2] 30 u0 (fun q => q = p8) := Bu0.1
  have Ku0 := Bu0.2.keep
  clear Bu0
  obtain ⟨u1, hu1⟩ : ∃ u1, (u0).setCell ⟨p8, 1, none⟩ (.int .u8 K6) = u1 := ⟨_, rfl⟩
  have Bu1 := Du0.set 1 (.int .u8 K6)
  rw [hu1] at Bu1
  have ju1 : (u0).cell? ⟨p8, 1, none⟩ = some (a1) := Du0.cell 1
  have fu1 := Du0.free 1
  have Du1 : Blk p8 #[.string (strOfNums nb), .int .u8 K6, a2] 30 u1 (fun q => q = p8) := Bu1.1
  have Ku1 := Bu1.2.keep
  clear Bu1
  obtain ⟨u2, hu2⟩ : ∃ u2, (u1).setCell ⟨p8, 2, none⟩ (.slice A2 pay.length c2) = u2 := ⟨_, rfl⟩
  have Bu2 := Du1.set 2 (.slice A2 pay.length c2)
  rw [hu2] at Bu2
  have ju2 : (u1).cell? ⟨p8, 2, none⟩ = some (a2) := Du1.cell 2
  have fu2 := Du1.free 2
  have Du2 : Blk p8 #[.string (strOfNums nb), .int .u8 K6, .slice A2 pay.length c2] 30 u2 (fun q => q = p8) := Bu2.1
  have Ku2 := Bu2.2.keep
  clear Bu2
  refine next_win 7 8 (fun a b => a = b) (OneW z2 u2) 7 127 (fun _ _ h => .inl h) (fun _ => rfl) (fun _ _ _ h k => h.trans k) (OneW.refl _ _) (OneW.trans _ _) [[(8, none), (56, none)]] [none, none, none, none, none, none, none, none] (by kernel_rfl) (by kernel_rfl) (by kernel_rfl) (by kernel_rfl) ?_
  intro Nu hNu
  refine relyD_the rfl (fun v w => w = u2) (fun v w w' h r => r.end_ h) ?h7 ?_
  case h7 =>
    intro wq hwq a' hp ht K hK
    subst hwq
    have HK := Lib.hid (hK undef _ (.inr ⟨rfl, rfl⟩) rfl)
    clear hK
    go_wp2_with fail
    exact HK.out
  refine relyD_end ?_
  intro wz hR
  simp only [had, List.take_succ_cons, List.take_zero, List.map_cons, List.map_nil, List.cons_append, List.nil_append, ends, Act.put, List.setIfInBounds_toArray, List.set_cons_zero, List.set_cons_succ]
  intro vz hvz; obtain rfl := hvz.symm
  refine hNu _ _ ?_
  clear hR
  refine next_done rfl ?_
  try simp only [Act.put, List.setIfInBounds_toArray, List.set_cons_zero, List.set_cons_succ]
  have X11 := Lib.hid (show Ext w u2 from Below.trans (Below.trans (Below.trans X10.out (Ku0.below X10.out.size (fun x hx hz => by have hz' : x = p8 := hz; omega))) (Ku1.below (Nat.le_trans X10.out.size Ku0.size) (fun x hx hz => by have hz' : x = p8 := hz; omega))) (Ku2.below (Nat.le_trans (Nat.le_trans X10.out.size Ku0.size) Ku1.size) (fun x hx hz => by have hz' : x = p8 := hz; omega)))
  have hrS := Ext.reads X11.out HR.out
  have hrT := Ext.reads X11.out HR.out
  obtain ⟨n7, k7, A7, y7, c7, F7⟩ : ∃ n7 k7 A7 y7 c7, Fr p7 n7 k7 A7 y7 c7 u2 := by
    by_cases hpp : p7 = p8
    · subst hpp
      exact ⟨_, _, _, _, _, Du2, HNS.out, hnl.1, hnl.2.1, hK6b, HB.out, by omega, hrT⟩
    · refine ⟨_, _, _, _, _, (Lcl.blk _ _ _).stay ((Lcl.blk _ _ _).stay ((Lcl.blk _ _ _).stay Dz2 Ku0 ?_) Ku1 ?_) Ku2 ?_, HNS.out, hnl.1, hnl.2.1, hK6b, HB.out, by omega, hrS⟩ <;> (intro x hx hz; have hx' : x = p7 := hx; have hz' : x = p8 := hz; omega)
  obtain ⟨n8, k8, A8, y8, c8, F8⟩ : ∃ n8 k8 A8 y8 c8, Fr p8 n8 k8 A8 y8 c8 u2 := ⟨_, _, _, _, _, Du2, HNS.out, hnl.1, hnl.2.1, hK6b, HB.out, by omega, hrT⟩
  have G7 := Lib.hid F7
  have G8 := Lib.hid F8
  clear F7 F8 Du2 Ku0 Ku1 Ku2 hu0 hu1 hu2 ju0 ju1 ju2 fu0 fu1 fu2 Du0 Du1 hb8q Dz2 Kz0 Kz1 Kz2 hrS hrT X10 X9 HR9 HQ9
  have e0 := G7.out.blk.cell 0
  have e1 := G7.out.blk.cell 1
  have e2 := G7.out.blk.cell 2
  have d0 := G8.out.blk.cell 0
  have d1 := G8.out.blk.cell 1
  have d2 := G8.out.blk.cell 2
  simp only [List.getElem?_toArray, List.getElem?_cons_zero, List.getElem?_cons_succ] at e0 e1 e2 d0 d1 d2
  have HP := Lib.hid (put_c n7 y7 k7 c7 A7 u2 G7.out.rd G7.out.yb G7.out.nb (by have := G7.out.yl; omega) G7.out.ok)
  go_wp2_with fail
  refine HP.out.mono ?_
  rintro e w13 ⟨A13, c13, rfl, hrd13, _, _, hx13⟩
  have X13 := Lib.hid (Ext.trans _ _ _ X11.out hx13)
  have I7 := Lib.hid (G7.out.ext hx13)
  have I8 := Lib.hid (G8.out.ext hx13)
  have HRD13 := Lib.hid hrd13
  have HP8 := Lib.hid (put_c n8 y8 k8 c8 A8 w13 I8.out.rd I8.out.yb I8.out.nb (by have := I8.out.yl; omega) I8.out.ok)
  replace e0 := hx13.cell e0
  replace e1 := hx13.cell e1
  replace e2 := hx13.cell e2
  replace d0 := hx13.cell d0
  replace d1 := hx13.cell d1
  replace d2 := hx13.cell d2
  clear hx13 hrd13 G7 G8 HP X11
  go_wp2_with fail
  refine HP8.out.mono ?_
  rintro e w14 ⟨A14, c14, rfl, hrd14, _, _, hx14⟩
  have X14 := Lib.hid (Ext.trans _ _ _ X13.out hx14)
  have J7 := I7.out.ext hx14
  have J8 := I8.out.ext hx14
  replace e0 := hx14.cell e0
  replace e1 := hx14.cell e1
  replace e2 := hx14.cell e2
  replace d0 := hx14.cell d0
  replace d1 := hx14.cell d1
  replace d2 := hx14.cell d2
  have f7 := frame_bytes J7.nb J7.yb J7.n2 (show k7 ≤ 255 by have := J7.kb; omega)
  have f8 := frame_bytes J8.nb J8.yb J8.n2 (show k8 ≤ 255 by have := J8.kb; omega)
  have hinj := fun h => frame_inj J7.nb J7.yb J7.ok J8.nb J8.yb J8.ok h
  have hs1 : ¬ n7 = n8 → ¬ (strOfNums n7).toList = (strOfNums n8).toList := str_ne J7.nb J8.nb
  have hs2 : ¬ y7 = y8 → ¬ (strOfNums y7).toList = (strOfNums y8).toList := str_ne J7.yb J8.yb
  have hs3 : ¬ frameB n7 k7 y7 = frameB n8 k8 y8 → ¬ (strOfNums (frameB n7 k7 y7)).toList = (strOfNums (frameB n8 k8 y8)).toList := str_ne f7 f8
  have HS1 := Lib.hid hs1
  have HS2 := Lib.hid hs2
  have HS3 := Lib.hid hs3
  have HIJ := Lib.hid hinj
  have cv1 : (convert 22 9 (.slice A7 y7.length c7)).run Try.prog w14 = .ok (.string (strOfNums y7)) w14 := J7.rd.string (P := Try.prog) Try.underlying22 Try.underlying5 Try.underlying9 c7
  have cv2 : (convert 22 9 (.slice A8 y8.length c8)).run Try.prog w14 = .ok (.string (strOfNums y8)) w14 := J8.rd.string (P := Try.prog) Try.underlying22 Try.underlying5 Try.underlying9 c8
  have cv3 : (convert 22 9 (.slice A13 (frameB n7 k7 y7).length c13)).run Try.prog w14 = .ok (.string (strOfNums (frameB n7 k7 y7))) w14 := (hx14.reads HRD13.out).string (P := Try.prog) Try.underlying22 Try.underlying5 Try.underlying9 c13
  have cv4 : (convert 22 9 (.slice A14 (frameB n8 k8 y8).length c14)).run Try.prog w14 = .ok (.string (strOfNums (frameB n8 k8 y8))) w14 := hrd14.string (P := Try.prog) Try.underlying22 Try.underlying5 Try.underlying9 c14
  clear hx14 hrd14 I7 I8 HP8 X13 J7 J8 f7 f8 hinj hs1 hs2 hs3 HRD13
  have HV := Lib.hid (show n7 = n8 → k7 = k8 → y7 = y8 → frameB n7 k7 y7 = frameB n8 k8 y8 from by rintro rfl rfl rfl; rfl)
  generalize frameB n7 k7 y7 = V7 at cv3 HS3 HIJ HV ⊢
  generalize frameB n8 k8 y8 = V8 at cv4 HS3 HIJ HV ⊢
  have fin (X Y : List Int) (h : ¬ (strOfNums X).toList = (strOfNums Y).toList) : ((strOfNums X).toList == (strOfNums Y).toList) = false := by simpa using h
  by_cases hN : n7 = n8
  · by_cases hK : k7 = k8
    · by_cases hY : y7 = y8
      · have hV := HV.out hN hK hY
        subst hN hK hY hV
        go_wp2_with fail
        go_ret
        exact ⟨rfl, X14.out⟩
      · have h3 := HS3.out (fun e => hY (HIJ.out e).2.2)
        have h2 := HS2.out hY
        have b3 := fin _ _ h3
        have b2 := fin _ _ h2
        subst hN hK
        clear HV HIJ HS1 HS2 HS3 fin
        go_wp2_with fail
        go_ret
        exact ⟨rfl, X14.out⟩
    · have h3 := HS3.out (fun e => hK (HIJ.out e).2.1)
      have h2 : ¬ (k7 : Int) = (k8 : Int) := by omega
      have b3 := fin _ _ h3
      have b2 : decide ((k7 : Int) = (k8 : Int)) = false := by simpa using h2
      have b4 : ((k7 : Int) == (k8 : Int)) = false := by simpa using h2
      subst hN
      clear HV HIJ HS1 HS2 HS3 fin
      go_wp2_with fail
      go_ret
      exact ⟨rfl, X14.out⟩
  · have h3 := HS3.out (fun e => hN (HIJ.out e).1)
    have h2 := HS1.out hN
    have b3 := fin _ _ h3
    have b2 := fin _ _ h2
    clear HV HIJ HS1 HS2 HS3 fin
    go_wp2_with fail
    go_ret
    exact ⟨rfl, X14.out⟩
set_option maxHeartbeats 16000000 in
set_option maxRecDepth 20000 in
theorem apart_yn (A1 : Option Addr) (c1 : Nat) (nm : List Int) (k : Nat) (A2 : Option Addr) (c2 : Nat) (pay : List Int) (B1 : Option Addr) (d1 : Nat) (nn : List Int) (l : Nat) (B2 : Option Addr) (d2 : Nat) (qay : List Int) (m : Nat) (r : Int) (w : World)
    (HN : RowKit.Hid (Reads w .u8 A1 nm)) (HR : RowKit.Hid (Reads w .u8 A2 pay)) (HM : RowKit.Hid (Reads w .u8 B1 nn)) (HQ : RowKit.Hid (Reads w .u8 B2 qay)) (HNB : RowKit.Hid (IsBytes nm)) (HB : RowKit.Hid (IsBytes pay)) (HMB : RowKit.Hid (IsBytes nn)) (HQB : RowKit.Hid (IsBytes qay))
    (hk : k ≤ 255) (hl : l ≤ 255) (hm2 : Int.tmod (m : Int) 2 = 0) (hm3 : Int.tmod (m : Int) 3 = r) (hr : ¬ r = 0) :
    Calls Try.prog 6 #[.agg #[.slice A1 nm.length c1, .int .u8 k, .slice A2 pay.length c2], .agg #[.slice B1 nn.length d1, .int .u8 l, .slice B2 qay.length d2], .int .u8 m] w fun e w' => e = .returned (.bool true) ∧ Below w.heap.size w w' := by
  have hx0 : Ext w (w.alloc (.cells #[.slice A1 nm.length c1, .int .u8 k, .slice A2 pay.length c2] 24)) := (Below.refl _ _).alloc (Nat.le_refl _) _
  have hb0 := heap_alloc_new w (.cells #[.slice A1 nm.length c1, .int .u8 k, .slice A2 pay.length c2] 24)
  have hs0 : (w.alloc (.cells #[.slice A1 nm.length c1, .int .u8 k, .slice A2 pay.length c2] 24)).heap.size = w.heap.size + 1 := by simp
  obtain ⟨wa, hwa⟩ : ∃ wa, w.alloc (.cells #[.slice A1 nm.length c1, .int .u8 k, .slice A2 pay.length c2] 24) = wa := ⟨_, rfl⟩
  rw [hwa] at hx0 hb0 hs0
  have hx1 : Ext wa (wa.alloc (.cells #[.slice B1 nn.length d1, .int .u8 l, .slice B2 qay.length d2] 24)) := (Below.refl _ _).alloc (Nat.le_refl _) _
  have hb1 := heap_alloc_new wa (.cells #[.slice B1 nn.length d1, .int .u8 l, .slice B2 qay.length d2] 24)
  have HX := Lib.hid (Ext.trans _ _ _ hx0 hx1)
  have HS := Lib.hid ((hx1.block _ (Array.getElem?_eq_some_iff.1 hb0).1).trans hb0)
  rw [hs0] at hb1
  have HT := Lib.hid hb1
  clear hx0 hb0 hx1 hb1
  have hr1 : (r == 0) = false := by simpa using hr
  have hr2 : decide (r = 0) = false := by simpa using hr
  go_enter Try.func6, Try.ntmps6
  go_wp2_with fail
  refine (awake20 _).mono ?_
  rintro e w1 ⟨rfl, hx1⟩
  have X1 := Lib.hid (Ext.trans _ _ _ HX.out hx1)
  have HS1 := Lib.hid (show Blk w.heap.size #[.slice A1 nm.length c1, .int .u8 k, .slice A2 pay.length c2] 24 w1 (fun q => q = w.heap.size) from ⟨(hx1.block _ (Array.getElem?_eq_some_iff.1 HS.out).1).trans HS.out, fun _ => Iff.rfl⟩)
  have HT1 := Lib.hid (show Blk (w.heap.size + 1) #[.slice B1 nn.length d1, .int .u8 l, .slice B2 qay.length d2] 24 w1 (fun q => q = w.heap.size + 1) from ⟨(hx1.block _ (Array.getElem?_eq_some_iff.1 HT.out).1).trans HT.out, fun _ => Iff.rfl⟩)
  clear hx1 HX HS HT hwa hs0
  obtain ⟨pS, hpS⟩ : ∃ pS, w.heap.size = pS := ⟨_, rfl⟩
  have s0 : w1.cell? ⟨w.heap.size, 0, none⟩ = some (.slice A1 nm.length c1) := HS1.out.cell 0
  have s1 : w1.cell? ⟨w.heap.size, 1, none⟩ = some (.int .u8 k) := HS1.out.cell 1
  have s2 : w1.cell? ⟨w.heap.size, 2, none⟩ = some (.slice A2 pay.length c2) := HS1.out.cell 2
  have t0 : w1.cell? ⟨w.heap.size + 1, 0, none⟩ = some (.slice B1 nn.length d1) := HT1.out.cell 0
  have t1 : w1.cell? ⟨w.heap.size + 1, 1, none⟩ = some (.int .u8 l) := HT1.out.cell 1
  have t2 : w1.cell? ⟨w.heap.size + 1, 2, none⟩ = some (.slice B2 qay.length d2) := HT1.out.cell 2
  have tf := HT1.out.free 2
  clear hpS
  by_cases q1 : 100 < nm.length
  · have g1 : decide ((100 : Int) < (nm.length : Int)) = true := by simp; omega
    go_wp2_with fail
    go_ret
    exact ⟨rfl, X1.out⟩
  have g1 : decide ((100 : Int) < (nm.length : Int)) = false := by simp; omega
  by_cases q2 : 100 < nn.length
  · have g2 : decide ((100 : Int) < (nn.length : Int)) = true := by simp; omega
    go_wp2_with fail
    go_ret
    exact ⟨rfl, X1.out⟩
  have g2 : decide ((100 : Int) < (nn.length : Int)) = false := by simp; omega
  by_cases q3 : 100 < pay.length
  · have g3 : decide ((100 : Int) < (pay.length : Int)) = true := by simp; omega
    go_wp2_with fail
    go_ret
    exact ⟨rfl, X1.out⟩
  have g3 : decide ((100 : Int) < (pay.length : Int)) = false := by simp; omega
  by_cases q4 : 100 < qay.length
  · have g4 : decide ((100 : Int) < (qay.length : Int)) = true := by simp; omega
    go_wp2_with fail
    go_ret
    exact ⟨rfl, X1.out⟩
  have g4 : decide ((100 : Int) < (qay.length : Int)) = false := by simp; omega
  go_wp2_with fail
  have hd : Ext w1 w1.drew := (Ext.refl _).drew
  have X1d := Lib.hid (X1.out.drew)
  have HS1d := Lib.hid (Ext.keep (Lcl.blk _ _ _) hd HS1.out)
  have HT1d := Lib.hid (Ext.keep (Lcl.blk _ _ _) hd HT1.out)
  clear hd s0 s1 s2 t0 t1 t2 tf HS1 HT1
  refine wp_region_next (by kernel_rfl) ?_
  generalize w1.drew = w2 at X1d HS1d HT1d ⊢
  have hY1 := HT1d.out.set 0 (.slice A1 nm.length c1)
  obtain ⟨y1, hy1⟩ : ∃ y1, w2.setCell ⟨w.heap.size + 1, 0, none⟩ (.slice A1 nm.length c1) = y1 := ⟨_, rfl⟩
  rw [hy1] at hY1
  have HY1 := Lib.hid hy1
  have HTy := Lib.hid (show Blk (w.heap.size + 1) #[.slice A1 nm.length c1, .int .u8 l, .slice B2 qay.length d2] 24 y1 (fun q => q = w.heap.size + 1) from hY1.1)
  have HKy := Lib.hid hY1.2.keep
  have HSy := Lib.hid ((Lcl.blk _ _ _).stay HS1d.out hY1.2.keep (fun x hx hz => by have hx' : x = w.heap.size := hx; have hz' : x = w.heap.size + 1 := hz; omega))
  clear hY1 hy1
  refine next_win 0 6 (fun a b => a = b) (OneW w2 y1) 5 19 (fun _ _ h => .inl h) (fun _ => rfl) (fun _ _ _ h k => h.trans k) (OneW.refl _ _) (OneW.trans _ _) [[(3, none)], [(41, some 0)], [(3, none)], [(43, some 2)], [(4, none)], [(45, some 4), (42, some 1)]] [some 41, some 42, some 43, some 44, some 45, none] (by kernel_rfl) (by kernel_rfl) (by kernel_rfl) (by kernel_rfl) ?_
  intro Nx hNx
  apply relyD_const_e (by decide) (by decide); case h => (intro wr hR a' h3 K hK; go_wp2_with fail; rfl)
  apply relyD_const_e (by decide) (by decide); case h => (rintro wr rfl a' h41 K hK; have k9 := HS1d.out.cell 0; go_wp2_with fail; rfl)
  apply relyD_const (by decide) (by decide); case h => (intro wr hR a' h3 K hK; go_wp2_with fail; rfl)
  apply relyD_const (by decide) (by decide)
  case h =>
    intro wr hR a' h43 K hK
    have k9 : wr.cell? ⟨w.heap.size, 1, none⟩ = some (.int .u8 k) := by
      rcases hR with rfl | ⟨_, rfl⟩
      · exact HS1d.out.cell 1
      · exact HSy.out.cell 1
    go_wp2_with fail
    rfl
  apply relyD_const_e (by decide) (by decide); case h => (intro wr hR a' h4 K hK; go_wp2_with fail; rfl)
  refine relyD_the rfl (fun v w => w = y1) (fun v w w' h r => r.end_ h) ?h5 ?_
  case h5 =>
    rintro wr rfl a' h45 h42 K hK
    have k9 := HT1d.out.cell 0
    have kf := HT1d.out.free 0
    have HK := Lib.hid (hK undef _ (.inr ⟨rfl, rfl⟩) rfl)
    rw [← HY1.out] at HK
    clear hK
    go_wp2_with fail
    exact HK.out
  refine relyD_end ?_
  intro wr hR
  simp only [had, List.take_succ_cons, List.take_zero, List.map_cons, List.map_nil, List.cons_append, List.nil_append, ends, Act.put, List.setIfInBounds_toArray, List.set_cons_zero, List.set_cons_succ]
  intro v5 hv5; obtain rfl := hv5.symm
  refine hNx _ _ ?_
  have X5 := Lib.hid (show Ext w y1 from Below.trans X1d.out (HKy.out.below X1d.out.size (fun x hx hz => by have hz' : x = w.heap.size + 1 := hz; omega)))
  have hY2 := HTy.out.set 1 (.int .u8 k)
  obtain ⟨y2, hy2⟩ : ∃ y2, y1.setCell ⟨w.heap.size + 1, 1, none⟩ (.int .u8 k) = y2 := ⟨_, rfl⟩
  rw [hy2] at hY2
  have HY2 := Lib.hid hy2
  have HT4 := Lib.hid (show Blk (w.heap.size + 1) #[.slice A1 nm.length c1, .int .u8 k, .slice B2 qay.length d2] 24 y2 (fun q => q = w.heap.size + 1) from hY2.1)
  have HS4 := Lib.hid ((Lcl.blk _ _ _).stay HSy.out hY2.2.keep (fun x hx hz => by have hx' : x = w.heap.size := hx; have hz' : x = w.heap.size + 1 := hz; omega))
  have X4 := Lib.hid (show Ext w y2 from Below.trans X5.out (hY2.2.keep.below X5.out.size (fun x hx hz => by have hz' : x = w.heap.size + 1 := hz; omega)))
  clear hR hY2 hy2 HS1d HT1d HY1 HKy X1d
  refine next_win 6 8 (fun a b => a = b) (OneW y1 y2) 7 127 (fun _ _ h => .inl h) (fun _ => rfl) (fun _ _ _ h k => h.trans k) (OneW.refl _ _) (OneW.trans _ _) [[(4, none)], [(46, some 6), (44, none)]] [none, none, none, none, none, none, some 46, none] (by kernel_rfl) (by kernel_rfl) (by kernel_rfl) (by kernel_rfl) ?_
  intro Ny hNy
  apply relyD_const_e (by decide) (by decide); case h => (intro wr hR a' h4 K hK; go_wp2_with fail; rfl)
  refine relyD_the rfl (fun v w => w = y2) (fun v w w' h r => r.end_ h) ?h7 ?_
  case h7 =>
    rintro wr rfl a' h46 h44 K hK
    have k9 := HTy.out.cell 1
    have kf := HTy.out.free 1
    have HK := Lib.hid (hK undef _ (.inr ⟨rfl, rfl⟩) rfl)
    rw [← HY2.out] at HK
    clear hK
    go_wp2_with fail
    exact HK.out
  refine relyD_end ?_
  intro wr hR
  simp only [had, List.take_succ_cons, List.take_zero, List.map_cons, List.map_nil, List.cons_append, List.nil_append, ends, Act.put, List.setIfInBounds_toArray, List.set_cons_zero, List.set_cons_succ]
  intro v7 hv7; obtain rfl := hv7.symm
  refine hNy _ _ ?_
  refine next_done rfl ?_
  try simp only [Act.put, List.setIfInBounds_toArray, List.set_cons_zero, List.set_cons_succ]
  clear hR HSy HTy HY2 X5
  have s2 : y2.cell? ⟨w.heap.size, 2, none⟩ = some (.slice A2 pay.length c2) := HS4.out.cell 2
  have t2 : y2.cell? ⟨w.heap.size + 1, 2, none⟩ = some (.slice B2 qay.length d2) := HT4.out.cell 2
  have tf := HT4.out.free 2
  go_wp2_with fail
  have HT6 := HT4
  have HS6 := HS4
  have X6 := X4
  obtain ⟨y3, hy3⟩ : ∃ y3, y2 = y3 := ⟨_, rfl⟩
  rw [hy3] at HT6 HS6 X6 ⊢
  clear hy3 tf
  have HN6 := Lib.hid (Ext.reads X6.out HN.out)
  have HR6 := Lib.hid (Ext.reads X6.out HR.out)
  have HM6 := Lib.hid (Ext.reads X6.out HM.out)
  have HQ6 := Lib.hid (Ext.reads X6.out HQ.out)
  clear HT4 HS4 X4
  go_wp2_with fail
  refine wp_region_next (by kernel_rfl) ?_
  refine next_win 0 6 Ext Ext 999 0 (fun _ _ h => h) Ext.refl Ext.trans Ext.refl Ext.trans [[(3, none)], [(53, some 0)], [(4, none)], [(55, some 2)], [], []] [some 53, some 54, some 55, some 56, some 7, some 8] (by kernel_rfl) (by kernel_rfl) (by kernel_rfl) (by kernel_rfl) ?_
  intro Nx hNx
  apply relyD_const (by decide) (by decide); case h => (intro wr hR a' h3 K hK; have HB := Ext.keep (Lcl.blk _ _ _) hR.undrew HS6.out; have j0 := HB.cell 0; have j1 := HB.cell 1; have j2 := HB.cell 2; clear HB; go_wp2_with fail; exact Ext.refl _)
  apply relyD_const (by decide) (by decide)
  case h =>
    intro wr hR a' h53 K hK
    have HK := Lib.hid hK
    clear hK
    go_wp2_with fail
    refine (small_c A1 A2 c1 c2 pay.length nm k wr (hR.undrew.reads HN6.out) (by omega) (by omega)).mono ?_
    rintro e w8 ⟨rfl, hx8⟩
    go_wp2_with fail
    exact HK.out _ hx8
  apply relyD_const (by decide) (by decide); case h => (intro wr hR a' h4 K hK; have HB := Ext.keep (Lcl.blk _ _ _) hR.undrew HT6.out; have j0 := HB.cell 0; have j1 := HB.cell 1; have j2 := HB.cell 2; clear HB; go_wp2_with fail; exact Ext.refl _)
  apply relyD_const (by decide) (by decide)
  case h =>
    intro wr hR a' h55 K hK
    have HK := Lib.hid hK
    clear hK
    go_wp2_with fail
    refine (small_c A1 B2 c1 d2 qay.length nm k wr (hR.undrew.reads HN6.out) (by omega) (by omega)).mono ?_
    rintro e w8 ⟨rfl, hx8⟩
    go_wp2_with fail
    exact HK.out _ hx8
  refine relyD_rel (by decide) (by decide) (fun v w => ∃ p, v = .pointer (some ⟨p, 0, none⟩) ∧ y3.heap.size ≤ p ∧ Blk p #[.string ⟨#[]⟩, .int .u8 0, .slice none 0 0] 30 w (fun q => q = p)) (fun v w w' ⟨p, e, hp, h⟩ x => ⟨p, e, hp, Ext.keep (Lcl.blk _ _ _) x h⟩) ?h4 ?_
  case h4 =>
    intro wr hR a' K hK
    have hnb := heap_alloc_new wr (.cells #[.string ⟨#[]⟩, .int .u8 0, .slice none 0 0] 30)
    have HK := Lib.hid (hK _ _ ((Below.refl _ _).alloc (Nat.le_refl _) _) ⟨wr.heap.size, rfl, hR.undrew.size, hnb, fun _ => Iff.rfl⟩)
    clear hK hnb
    go_wp2_with fail
    exact HK.out
  refine relyD_rel (by decide) (by decide) (fun v w => ∃ p, v = .pointer (some ⟨p, 0, none⟩) ∧ y3.heap.size ≤ p ∧ Blk p #[.string ⟨#[]⟩, .int .u8 0, .slice none 0 0] 30 w (fun q => q = p)) (fun v w w' ⟨p, e, hp, h⟩ x => ⟨p, e, hp, Ext.keep (Lcl.blk _ _ _) x h⟩) ?h5 ?_
  case h5 =>
    intro wr hR a' K hK
    have hnb := heap_alloc_new wr (.cells #[.string ⟨#[]⟩, .int .u8 0, .slice none 0 0] 30)
    have HK := Lib.hid (hK _ _ ((Below.refl _ _).alloc (Nat.le_refl _) _) ⟨wr.heap.size, rfl, hR.undrew.size, hnb, fun _ => Iff.rfl⟩)
    clear hK hnb
    go_wp2_with fail
    exact HK.out
  refine relyD_end ?_
  intro wr hR
  simp only [had, List.take_succ_cons, List.take_zero, List.map_cons, List.map_nil, List.cons_append, List.nil_append, ends, Act.put, List.setIfInBounds_toArray, List.set_cons_zero, List.set_cons_succ]
  rintro v4 ⟨p7, rfl, hp7, hb7⟩ v5 ⟨p8, rfl, hp8, hb8⟩
  refine hNx _ _ ?_
  have hE := hR.undrew
  have X9 := Lib.hid (Ext.trans _ _ _ X6.out hE)
  have HR9 := Lib.hid (hE.reads HR6.out)
  have HQ9 := Lib.hid (hE.reads HQ6.out)
  have hsz9 := Nat.le_trans X6.out.size hp7
  have hsz8 := Nat.le_trans X6.out.size hp8
  clear hR hE HS6 HT6 HN6 HR6 HM6 HQ6 X6 hp7 hp8
  obtain ⟨nb, hnb⟩ : ∃ nb, nameS nm = nb := ⟨_, rfl⟩
  rw [hnb]
  have hnl := nameS_len nm
  have HNS := Lib.hid (nameS_bytes HNB.out)
  rw [hnb] at hnl HNS
  obtain ⟨K6, hK6, hK6b⟩ : ∃ K6, k % 6 = K6 ∧ K6 < 6 := ⟨_, rfl, Nat.mod_lt _ (by omega)⟩
  have hK6i : (k : Int) % 6 = (K6 : Int) := by omega
  rw [hK6i]
  clear hK6 hK6i hnb
  obtain ⟨z0, hz0⟩ : ∃ z0, (wr).setCell ⟨p7, 0, none⟩ (.string (strOfNums nb)) = z0 := ⟨_, rfl⟩
  have Bz0 := hb7.set 0 (.string (strOfNums nb))
  rw [hz0] at Bz0
  have jz0 : (wr).cell? ⟨p7, 0, none⟩ = some (.string ⟨#[]⟩) := hb7.cell 0
  have fz0 := hb7.free 0
  have Dz0 : Blk p7 #[.string (strOfNums nb), .int .u8 0, .slice none 0 0] 30 z0 (fun q => q = p7) := Bz0.1
  have Kz0 := Bz0.2.keep
  clear Bz0
  obtain ⟨z1, hz1⟩ : ∃ z1, (z0).setCell ⟨p7, 1, none⟩ (.int .u8 K6) = z1 := ⟨_, rfl⟩
  have Bz1 := Dz0.set 1 (.int .u8 K6)
  rw [hz1] at Bz1
  have jz1 : (z0).cell? ⟨p7, 1, none⟩ = some (.int .u8 0) := Dz0.cell 1
  have fz1 := Dz0.free 1
  have Dz1 : Blk p7 #[.string (strOfNums nb), .int .u8 K6, .slice none 0 0] 30 z1 (fun q => q = p7) := Bz1.1
  have Kz1 := Bz1.2.keep
  clear Bz1
  obtain ⟨z2, hz2⟩ : ∃ z2, (z1).setCell ⟨p7, 2, none⟩ (.slice A2 pay.length c2) = z2 := ⟨_, rfl⟩
  have Bz2 := Dz1.set 2 (.slice A2 pay.length c2)
  rw [hz2] at Bz2
  have jz2 : (z1).cell? ⟨p7, 2, none⟩ = some (.slice none 0 0) := Dz1.cell 2
  have fz2 := Dz1.free 2
  have Dz2 : Blk p7 #[.string (strOfNums nb), .int .u8 K6, .slice A2 pay.length c2] 30 z2 (fun q => q = p7) := Bz2.1
  have Kz2 := Bz2.2.keep
  clear Bz2
  refine next_win 6 7 (fun a b => a = b) (OneW wr z2) 6 63 (fun _ _ h => .inl h) (fun _ => rfl) (fun _ _ _ h k => h.trans k) (OneW.refl _ _) (OneW.trans _ _) [[(7, none), (54, none)]] [none, none, none, none, none, none, none] (by kernel_rfl) (by kernel_rfl) (by kernel_rfl) (by kernel_rfl) ?_
  intro Ny hNy
  refine relyD_the rfl (fun v w => w = z2) (fun v w w' h r => r.end_ h) ?h6 ?_
  case h6 =>
    intro wq hwq a' hp ht K hK
    subst hwq
    have HK := Lib.hid (hK undef _ (.inr ⟨rfl, rfl⟩) rfl)
    clear hK
    go_wp2_with fail
    exact HK.out
  refine relyD_end ?_
  intro wz hR
  simp only [had, List.take_succ_cons, List.take_zero, List.map_cons, List.map_nil, List.cons_append, List.nil_append, ends, Act.put, List.setIfInBounds_toArray, List.set_cons_zero, List.set_cons_succ]
  intro vz hvz; obtain rfl := hvz.symm
  refine hNy _ _ ?_
  clear hR
  obtain ⟨a0, a1, a2, hb8q⟩ : ∃ a0 a1 a2, Blk p8 #[a0, a1, a2] 30 z2 (fun q => q = p8) := by
    by_cases hpp : p7 = p8
    · subst hpp
      exact ⟨_, _, _, Dz2⟩
    · refine ⟨_, _, _, (Lcl.blk _ _ _).stay ((Lcl.blk _ _ _).stay ((Lcl.blk _ _ _).stay hb8 Kz0 ?_) Kz1 ?_) Kz2 ?_⟩ <;> (intro x hx hz; have hx' : x = p8 := hx; have hz' : x = p7 := hz; omega)
  have X10 := Lib.hid (show Ext w z2 from Below.trans (Below.trans (Below.trans X9.out (Kz0.below X9.out.size (fun x hx hz => by have hz' : x = p7 := hz; omega))) (Kz1.below (Nat.le_trans X9.out.size Kz0.size) (fun x hx hz => by have hz' : x = p7 := hz; omega))) (Kz2.below (Nat.le_trans (Nat.le_trans X9.out.size Kz0.size) Kz1.size) (fun x hx hz => by have hz' : x = p7 := hz; omega)))
  clear hz0 hz1 hz2 jz0 jz1 jz2 fz0 fz1 fz2 hb7 hb8 Dz0 Dz1
  obtain ⟨u0, hu0⟩ : ∃ u0, (z2).setCell ⟨p8, 0, none⟩ (.string (strOfNums nb)) = u0 := ⟨_, rfl⟩
  have Bu0 := hb8q.set 0 (.string (strOfNums nb))
  rw [hu0] at Bu0
  have ju0 : (z2).cell? ⟨p8, 0, none⟩ = some (a0) := hb8q.cell 0
  have fu0 := hb8q.free 0
  have Du0 : Blk p8 #[.string (strOfNums nb), a1, a2] 30 u0 (fun q => q = p8) := Bu0.1
  have Ku0 := Bu0.2.keep
  clear Bu0
  obtain ⟨u1, hu1⟩ : ∃ u1, (u0).setCell ⟨p8, 1, none⟩ (.int .u8 K6) = u1 := ⟨_, rfl⟩
  have Bu1 := Du0.set 1 (.int .u8 K6)
  rw [hu1] at Bu1
  have ju1 : (u0).cell? ⟨p8, 1, none⟩ = some (a1) := Du0.cell 1
  have fu1 := Du0.free 1
  have Du1 : Blk p8 #[.string (strOfNums nb), .int .u8 K6, a2] 30 u1 (fun q => q = p8) := Bu1.1
  have Ku1 := Bu1.2.keep
  clear Bu1
  obtain ⟨u2, hu2⟩ : ∃ u2, (u1).setCell ⟨p8, 2, none⟩ (.slice B2 qay.length d2) = u2 := ⟨_, rfl⟩
  have Bu2 := Du1.set 2 (.slice B2 qay.length d2)
  rw [hu2] at Bu2
  have ju2 : (u1).cell? ⟨p8, 2, none⟩ = some (a2) := Du1.cell 2
  have fu2 := Du1.free 2
  have Du2 : Blk p8 #[.string (strOfNums nb), .int .u8 K6, .slice B2 qay.length d2] 30 u2 (fun q => q = p8) := Bu2.1
  have Ku2 := Bu2.2.keep
  clear Bu2
  refine next_win 7 8 (fun a b => a = b) (OneW z2 u2) 7 127 (fun _ _ h => .inl h) (fun _ => rfl) (fun _ _ _ h k => h.trans k) (OneW.refl _ _) (OneW.trans _ _) [[(8, none), (56, none)]] [none, none, none, none, none, none, none, none] (by kernel_rfl) (by kernel_rfl) (by kernel_rfl) (by kernel_rfl) ?_
  intro Nu hNu
  refine relyD_the rfl (fun v w => w = u2) (fun v w w' h r => r.end_ h) ?h7 ?_
  case h7 =>
    intro wq hwq a' hp ht K hK
    subst hwq
    have HK := Lib.hid (hK undef _ (.inr ⟨rfl, rfl⟩) rfl)
    clear hK
    go_wp2_with fail
    exact HK.out
  refine relyD_end ?_
  intro wz hR
  simp only [had, List.take_succ_cons, List.take_zero, List.map_cons, List.map_nil, List.cons_append, List.nil_append, ends, Act.put, List.setIfInBounds_toArray, List.set_cons_zero, List.set_cons_succ]
  intro vz hvz; obtain rfl := hvz.symm
  refine hNu _ _ ?_
  clear hR
  refine next_done rfl ?_
  try simp only [Act.put, List.setIfInBounds_toArray, List.set_cons_zero, List.set_cons_succ]
  have X11 := Lib.hid (show Ext w u2 from Below.trans (Below.trans (Below.trans X10.out (Ku0.below X10.out.size (fun x hx hz => by have hz' : x = p8 := hz; omega))) (Ku1.below (Nat.le_trans X10.out.size Ku0.size) (fun x hx hz => by have hz' : x = p8 := hz; omega))) (Ku2.below (Nat.le_trans (Nat.le_trans X10.out.size Ku0.size) Ku1.size) (fun x hx hz => by have hz' : x = p8 := hz; omega)))
  have hrS := Ext.reads X11.out HR.out
  have hrT := Ext.reads X11.out HQ.out
  obtain ⟨n7, k7, A7, y7, c7, F7⟩ : ∃ n7 k7 A7 y7 c7, Fr p7 n7 k7 A7 y7 c7 u2 := by
    by_cases hpp : p7 = p8
    · subst hpp
      exact ⟨_, _, _, _, _, Du2, HNS.out, hnl.1, hnl.2.1, hK6b, HQB.out, by omega, hrT⟩
    · refine ⟨_, _, _, _, _, (Lcl.blk _ _ _).stay ((Lcl.blk _ _ _).stay ((Lcl.blk _ _ _).stay Dz2 Ku0 ?_) Ku1 ?_) Ku2 ?_, HNS.out, hnl.1, hnl.2.1, hK6b, HB.out, by omega, hrS⟩ <;> (intro x hx hz; have hx' : x = p7 := hx; have hz' : x = p8 := hz; omega)
  obtain ⟨n8, k8, A8, y8, c8, F8⟩ : ∃ n8 k8 A8 y8 c8, Fr p8 n8 k8 A8 y8 c8 u2 := ⟨_, _, _, _, _, Du2, HNS.out, hnl.1, hnl.2.1, hK6b, HQB.out, by omega, hrT⟩
  have G7 := Lib.hid F7
  have G8 := Lib.hid F8
  clear F7 F8 Du2 Ku0 Ku1 Ku2 hu0 hu1 hu2 ju0 ju1 ju2 fu0 fu1 fu2 Du0 Du1 hb8q Dz2 Kz0 Kz1 Kz2 hrS hrT X10 X9 HR9 HQ9
  have e0 := G7.out.blk.cell 0
  have e1 := G7.out.blk.cell 1
  have e2 := G7.out.blk.cell 2
  have d0 := G8.out.blk.cell 0
  have d1 := G8.out.blk.cell 1
  have d2 := G8.out.blk.cell 2
  simp only [List.getElem?_toArray, List.getElem?_cons_zero, List.getElem?_cons_succ] at e0 e1 e2 d0 d1 d2
  have HP := Lib.hid (put_c n7 y7 k7 c7 A7 u2 G7.out.rd G7.out.yb G7.out.nb (by have := G7.out.yl; omega) G7.out.ok)
  go_wp2_with fail
  refine HP.out.mono ?_
  rintro e w13 ⟨A13, c13, rfl, hrd13, _, _, hx13⟩
  have X13 := Lib.hid (Ext.trans _ _ _ X11.out hx13)
  have I7 := Lib.hid (G7.out.ext hx13)
  have I8 := Lib.hid (G8.out.ext hx13)
  have HRD13 := Lib.hid hrd13
  have HP8 := Lib.hid (put_c n8 y8 k8 c8 A8 w13 I8.out.rd I8.out.yb I8.out.nb (by have := I8.out.yl; omega) I8.out.ok)
  replace e0 := hx13.cell e0
  replace e1 := hx13.cell e1
  replace e2 := hx13.cell e2
  replace d0 := hx13.cell d0
  replace d1 := hx13.cell d1
  replace d2 := hx13.cell d2
  clear hx13 hrd13 G7 G8 HP X11
  go_wp2_with fail
  refine HP8.out.mono ?_
  rintro e w14 ⟨A14, c14, rfl, hrd14, _, _, hx14⟩
  have X14 := Lib.hid (Ext.trans _ _ _ X13.out hx14)
  have J7 := I7.out.ext hx14
  have J8 := I8.out.ext hx14
  replace e0 := hx14.cell e0
  replace e1 := hx14.cell e1
  replace e2 := hx14.cell e2
  replace d0 := hx14.cell d0
  replace d1 := hx14.cell d1
  replace d2 := hx14.cell d2
  have f7 := frame_bytes J7.nb J7.yb J7.n2 (show k7 ≤ 255 by have := J7.kb; omega)
  have f8 := frame_bytes J8.nb J8.yb J8.n2 (show k8 ≤ 255 by have := J8.kb; omega)
  have hinj := fun h => frame_inj J7.nb J7.yb J7.ok J8.nb J8.yb J8.ok h
  have hs1 : ¬ n7 = n8 → ¬ (strOfNums n7).toList = (strOfNums n8).toList := str_ne J7.nb J8.nb
  have hs2 : ¬ y7 = y8 → ¬ (strOfNums y7).toList = (strOfNums y8).toList := str_ne J7.yb J8.yb
  have hs3 : ¬ frameB n7 k7 y7 = frameB n8 k8 y8 → ¬ (strOfNums (frameB n7 k7 y7)).toList = (strOfNums (frameB n8 k8 y8)).toList := str_ne f7 f8
  have HS1 := Lib.hid hs1
  have HS2 := Lib.hid hs2
  have HS3 := Lib.hid hs3
  have HIJ := Lib.hid hinj
  have cv1 : (convert 22 9 (.slice A7 y7.length c7)).run Try.prog w14 = .ok (.string (strOfNums y7)) w14 := J7.rd.string (P := Try.prog) Try.underlying22 Try.underlying5 Try.underlying9 c7
  have cv2 : (convert 22 9 (.slice A8 y8.length c8)).run Try.prog w14 = .ok (.string (strOfNums y8)) w14 := J8.rd.string (P := Try.prog) Try.underlying22 Try.underlying5 Try.underlying9 c8
  have cv3 : (convert 22 9 (.slice A13 (frameB n7 k7 y7).length c13)).run Try.prog w14 = .ok (.string (strOfNums (frameB n7 k7 y7))) w14 := (hx14.reads HRD13.out).string (P := Try.prog) Try.underlying22 Try.underlying5 Try.underlying9 c13
  have cv4 : (convert 22 9 (.slice A14 (frameB n8 k8 y8).length c14)).run Try.prog w14 = .ok (.string (strOfNums (frameB n8 k8 y8))) w14 := hrd14.string (P := Try.prog) Try.underlying22 Try.underlying5 Try.underlying9 c14
  clear hx14 hrd14 I7 I8 HP8 X13 J7 J8 f7 f8 hinj hs1 hs2 hs3 HRD13
  have HV := Lib.hid (show n7 = n8 → k7 = k8 → y7 = y8 → frameB n7 k7 y7 = frameB n8 k8 y8 from by rintro rfl rfl rfl; rfl)
  generalize frameB n7 k7 y7 = V7 at cv3 HS3 HIJ HV ⊢
  generalize frameB n8 k8 y8 = V8 at cv4 HS3 HIJ HV ⊢
  have fin (X Y : List Int) (h : ¬ (strOfNums X).toList = (strOfNums Y).toList) : ((strOfNums X).toList == (strOfNums Y).toList) = false := by simpa using h
  by_cases hN : n7 = n8
  · by_cases hK : k7 = k8
    · by_cases hY : y7 = y8
      · have hV := HV.out hN hK hY
        subst hN hK hY hV
        go_wp2_with fail
        go_ret
        exact ⟨rfl, X14.out⟩
      · have h3 := HS3.out (fun e => hY (HIJ.out e).2.2)
        have h2 := HS2.out hY
        have b3 := fin _ _ h3
        have b2 := fin _ _ h2
        subst hN hK
        clear HV HIJ HS1 HS2 HS3 fin
        go_wp2_with fail
        go_ret
        exact ⟨rfl, X14.out⟩
    · have h3 := HS3.out (fun e => hK (HIJ.out e).2.1)
      have h2 : ¬ (k7 : Int) = (k8 : Int) := by omega
      have b3 := fin _ _ h3
      have b2 : decide ((k7 : Int) = (k8 : Int)) = false := by simpa using h2
      have b4 : ((k7 : Int) == (k8 : Int)) = false := by simpa using h2
      subst hN
      clear HV HIJ HS1 HS2 HS3 fin
      go_wp2_with fail
      go_ret
      exact ⟨rfl, X14.out⟩
  · have h3 := HS3.out (fun e => hN (HIJ.out e).1)
    have h2 := HS1.out hN
    have b3 := fin _ _ h3
    have b2 := fin _ _ h2
    clear HV HIJ HS1 HS2 HS3 fin
    go_wp2_with fail
    go_ret
    exact ⟨rfl, X14.out⟩
set_option maxHeartbeats 16000000 in
set_option maxRecDepth 20000 in
theorem apart_ny (A1 : Option Addr) (c1 : Nat) (nm : List Int) (k : Nat) (A2 : Option Addr) (c2 : Nat) (pay : List Int) (B1 : Option Addr) (d1 : Nat) (nn : List Int) (l : Nat) (B2 : Option Addr) (d2 : Nat) (qay : List Int) (m : Nat) (w : World)
    (HN : RowKit.Hid (Reads w .u8 A1 nm)) (HR : RowKit.Hid (Reads w .u8 A2 pay)) (HM : RowKit.Hid (Reads w .u8 B1 nn)) (HQ : RowKit.Hid (Reads w .u8 B2 qay)) (HNB : RowKit.Hid (IsBytes nm)) (HB : RowKit.Hid (IsBytes pay)) (HMB : RowKit.Hid (IsBytes nn)) (HQB : RowKit.Hid (IsBytes qay))
    (hk : k ≤ 255) (hl : l ≤ 255) (hm2 : Int.tmod (m : Int) 2 = 1) (hm3 : Int.tmod (m : Int) 3 = 0) :
    Calls Try.prog 6 #[.agg #[.slice A1 nm.length c1, .int .u8 k, .slice A2 pay.length c2], .agg #[.slice B1 nn.length d1, .int .u8 l, .slice B2 qay.length d2], .int .u8 m] w fun e w' => e = .returned (.bool true) ∧ Below w.heap.size w w' := by
  have hx0 : Ext w (w.alloc (.cells #[.slice A1 nm.length c1, .int .u8 k, .slice A2 pay.length c2] 24)) := (Below.refl _ _).alloc (Nat.le_refl _) _
  have hb0 := heap_alloc_new w (.cells #[.slice A1 nm.length c1, .int .u8 k, .slice A2 pay.length c2] 24)
  have hs0 : (w.alloc (.cells #[.slice A1 nm.length c1, .int .u8 k, .slice A2 pay.length c2] 24)).heap.size = w.heap.size + 1 := by simp
  obtain ⟨wa, hwa⟩ : ∃ wa, w.alloc (.cells #[.slice A1 nm.length c1, .int .u8 k, .slice A2 pay.length c2] 24) = wa := ⟨_, rfl⟩
  rw [hwa] at hx0 hb0 hs0
  have hx1 : Ext wa (wa.alloc (.cells #[.slice B1 nn.length d1, .int .u8 l, .slice B2 qay.length d2] 24)) := (Below.refl _ _).alloc (Nat.le_refl _) _
  have hb1 := heap_alloc_new wa (.cells #[.slice B1 nn.length d1, .int .u8 l, .slice B2 qay.length d2] 24)
  have HX := Lib.hid (Ext.trans _ _ _ hx0 hx1)
  have HS := Lib.hid ((hx1.block _ (Array.getElem?_eq_some_iff.1 hb0).1).trans hb0)
  rw [hs0] at hb1
  have HT := Lib.hid hb1
  clear hx0 hb0 hx1 hb1
  go_enter Try.func6, Try.ntmps6
  go_wp2_with fail
  refine (awake20 _).mono ?_
  rintro e w1 ⟨rfl, hx1⟩
  have X1 := Lib.hid (Ext.trans _ _ _ HX.out hx1)
  have HS1 := Lib.hid (show Blk w.heap.size #[.slice A1 nm.length c1, .int .u8 k, .slice A2 pay.length c2] 24 w1 (fun q => q = w.heap.size) from ⟨(hx1.block _ (Array.getElem?_eq_some_iff.1 HS.out).1).trans HS.out, fun _ => Iff.rfl⟩)
  have HT1 := Lib.hid (show Blk (w.heap.size + 1) #[.slice B1 nn.length d1, .int .u8 l, .slice B2 qay.length d2] 24 w1 (fun q => q = w.heap.size + 1) from ⟨(hx1.block _ (Array.getElem?_eq_some_iff.1 HT.out).1).trans HT.out, fun _ => Iff.rfl⟩)
  clear hx1 HX HS HT hwa hs0
  obtain ⟨pS, hpS⟩ : ∃ pS, w.heap.size = pS := ⟨_, rfl⟩
  have s0 : w1.cell? ⟨w.heap.size, 0, none⟩ = some (.slice A1 nm.length c1) := HS1.out.cell 0
  have s1 : w1.cell? ⟨w.heap.size, 1, none⟩ = some (.int .u8 k) := HS1.out.cell 1
  have s2 : w1.cell? ⟨w.heap.size, 2, none⟩ = some (.slice A2 pay.length c2) := HS1.out.cell 2
  have t0 : w1.cell? ⟨w.heap.size + 1, 0, none⟩ = some (.slice B1 nn.length d1) := HT1.out.cell 0
  have t1 : w1.cell? ⟨w.heap.size + 1, 1, none⟩ = some (.int .u8 l) := HT1.out.cell 1
  have t2 : w1.cell? ⟨w.heap.size + 1, 2, none⟩ = some (.slice B2 qay.length d2) := HT1.out.cell 2
  have tf := HT1.out.free 2
  clear hpS
  by_cases q1 : 100 < nm.length
  · have g1 : decide ((100 : Int) < (nm.length : Int)) = true := by simp; omega
    go_wp2_with fail
    go_ret
    exact ⟨rfl, X1.out⟩
  have g1 : decide ((100 : Int) < (nm.length : Int)) = false := by simp; omega
  by_cases q2 : 100 < nn.length
  · have g2 : decide ((100 : Int) < (nn.length : Int)) = true := by simp; omega
    go_wp2_with fail
    go_ret
    exact ⟨rfl, X1.out⟩
  have g2 : decide ((100 : Int) < (nn.length : Int)) = false := by simp; omega
  by_cases q3 : 100 < pay.length
  · have g3 : decide ((100 : Int) < (pay.length : Int)) = true := by simp; omega
    go_wp2_with fail
    go_ret
    exact ⟨rfl, X1.out⟩
  have g3 : decide ((100 : Int) < (pay.length : Int)) = false := by simp; omega
  by_cases q4 : 100 < qay.length
  · have g4 : decide ((100 : Int) < (qay.length : Int)) = true := by simp; omega
    go_wp2_with fail
    go_ret
    exact ⟨rfl, X1.out⟩
  have g4 : decide ((100 : Int) < (qay.length : Int)) = false := by simp; omega
  go_wp2_with fail
  have HS4 := HS1
  have HT4 := HT1
  have X4 := X1
  have hY3 := HT4.out.set 2 (.slice A2 pay.length c2)
  generalize w1.setCell ⟨w.heap.size + 1, 2, none⟩ (.slice A2 pay.length c2) = y3 at hY3 ⊢
  have HT6 := Lib.hid (show Blk (w.heap.size + 1) #[.slice B1 nn.length d1, .int .u8 l, .slice A2 pay.length c2] 24 y3 (fun q => q = w.heap.size + 1) from hY3.1)
  have HS6 := Lib.hid ((Lcl.blk _ _ _).stay HS4.out hY3.2.keep (fun x hx hz => by have hx' : x = w.heap.size := hx; have hz' : x = w.heap.size + 1 := hz; omega))
  have X6 := Lib.hid (show Ext w y3 from Below.trans X4.out (hY3.2.keep.below X4.out.size (fun x hx hz => by have hz' : x = w.heap.size + 1 := hz; omega)))
  clear hY3 tf
  have HN6 := Lib.hid (Ext.reads X6.out HN.out)
  have HR6 := Lib.hid (Ext.reads X6.out HR.out)
  have HM6 := Lib.hid (Ext.reads X6.out HM.out)
  have HQ6 := Lib.hid (Ext.reads X6.out HQ.out)
  clear HT4 HS4 X4
  go_wp2_with fail
  refine wp_region_next (by kernel_rfl) ?_
  refine next_win 0 6 Ext Ext 999 0 (fun _ _ h => h) Ext.refl Ext.trans Ext.refl Ext.trans [[(3, none)], [(53, some 0)], [(4, none)], [(55, some 2)], [], []] [some 53, some 54, some 55, some 56, some 7, some 8] (by kernel_rfl) (by kernel_rfl) (by kernel_rfl) (by kernel_rfl) ?_
  intro Nx hNx
  apply relyD_const (by decide) (by decide); case h => (intro wr hR a' h3 K hK; have HB := Ext.keep (Lcl.blk _ _ _) hR.undrew HS6.out; have j0 := HB.cell 0; have j1 := HB.cell 1; have j2 := HB.cell 2; clear HB; go_wp2_with fail; exact Ext.refl _)
  apply relyD_const (by decide) (by decide)
  case h =>
    intro wr hR a' h53 K hK
    have HK := Lib.hid hK
    clear hK
    go_wp2_with fail
    refine (small_c A1 A2 c1 c2 pay.length nm k wr (hR.undrew.reads HN6.out) (by omega) (by omega)).mono ?_
    rintro e w8 ⟨rfl, hx8⟩
    go_wp2_with fail
    exact HK.out _ hx8
  apply relyD_const (by decide) (by decide); case h => (intro wr hR a' h4 K hK; have HB := Ext.keep (Lcl.blk _ _ _) hR.undrew HT6.out; have j0 := HB.cell 0; have j1 := HB.cell 1; have j2 := HB.cell 2; clear HB; go_wp2_with fail; exact Ext.refl _)
  apply relyD_const (by decide) (by decide)
  case h =>
    intro wr hR a' h55 K hK
    have HK := Lib.hid hK
    clear hK
    go_wp2_with fail
    refine (small_c B1 A2 d1 c2 pay.length nn l wr (hR.undrew.reads HM6.out) (by omega) (by omega)).mono ?_
    rintro e w8 ⟨rfl, hx8⟩
    go_wp2_with fail
    exact HK.out _ hx8
  refine relyD_rel (by decide) (by decide) (fun v w => ∃ p, v = .pointer (some ⟨p, 0, none⟩) ∧ y3.heap.size ≤ p ∧ Blk p #[.string ⟨#[]⟩, .int .u8 0, .slice none 0 0] 30 w (fun q => q = p)) (fun v w w' ⟨p, e, hp, h⟩ x => ⟨p, e, hp, Ext.keep (Lcl.blk _ _ _) x h⟩) ?h4 ?_
  case h4 =>
    intro wr hR a' K hK
    have hnb := heap_alloc_new wr (.cells #[.string ⟨#[]⟩, .int .u8 0, .slice none 0 0] 30)
    have HK := Lib.hid (hK _ _ ((Below.refl _ _).alloc (Nat.le_refl _) _) ⟨wr.heap.size, rfl, hR.undrew.size, hnb, fun _ => Iff.rfl⟩)
    clear hK hnb
    go_wp2_with fail
    exact HK.out
  refine relyD_rel (by decide) (by decide) (fun v w => ∃ p, v = .pointer (some ⟨p, 0, none⟩) ∧ y3.heap.size ≤ p ∧ Blk p #[.string ⟨#[]⟩, .int .u8 0, .slice none 0 0] 30 w (fun q => q = p)) (fun v w w' ⟨p, e, hp, h⟩ x => ⟨p, e, hp, Ext.keep (Lcl.blk _ _ _) x h⟩) ?h5 ?_
  case h5 =>
    intro wr hR a' K hK
    have hnb := heap_alloc_new wr (.cells #[.string ⟨#[]⟩, .int .u8 0, .slice none 0 0] 30)
    have HK := Lib.hid (hK _ _ ((Below.refl _ _).alloc (Nat.le_refl _) _) ⟨wr.heap.size, rfl, hR.undrew.size, hnb, fun _ => Iff.rfl⟩)
    clear hK hnb
    go_wp2_with fail
    exact HK.out
  refine relyD_end ?_
  intro wr hR
  simp only [had, List.take_succ_cons, List.take_zero, List.map_cons, List.map_nil, List.cons_append, List.nil_append, ends, Act.put, List.setIfInBounds_toArray, List.set_cons_zero, List.set_cons_succ]
  rintro v4 ⟨p7, rfl, hp7, hb7⟩ v5 ⟨p8, rfl, hp8, hb8⟩
  refine hNx _ _ ?_
  have hE := hR.undrew
  have X9 := Lib.hid (Ext.trans _ _ _ X6.out hE)
  have HR9 := Lib.hid (hE.reads HR6.out)
  have HQ9 := Lib.hid (hE.reads HQ6.out)
  have hsz9 := Nat.le_trans X6.out.size hp7
  have hsz8 := Nat.le_trans X6.out.size hp8
  clear hR hE HS6 HT6 HN6 HR6 HM6 HQ6 X6 hp7 hp8
  obtain ⟨nb, hnb⟩ : ∃ nb, nameS nm = nb := ⟨_, rfl⟩
  rw [hnb]
  have hnl := nameS_len nm
  have HNS := Lib.hid (nameS_bytes HNB.out)
  rw [hnb] at hnl HNS
  obtain ⟨K6, hK6, hK6b⟩ : ∃ K6, k % 6 = K6 ∧ K6 < 6 := ⟨_, rfl, Nat.mod_lt _ (by omega)⟩
  have hK6i : (k : Int) % 6 = (K6 : Int) := by omega
  rw [hK6i]
  clear hK6 hK6i hnb
  obtain ⟨mb, hmb⟩ : ∃ mb, nameS nn = mb := ⟨_, rfl⟩
  rw [hmb]
  have hml := nameS_len nn
  have HMS := Lib.hid (nameS_bytes HMB.out)
  rw [hmb] at hml HMS
  obtain ⟨L6, hL6, hL6b⟩ : ∃ L6, l % 6 = L6 ∧ L6 < 6 := ⟨_, rfl, Nat.mod_lt _ (by omega)⟩
  have hL6i : (l : Int) % 6 = (L6 : Int) := by omega
  rw [hL6i]
  clear hL6 hL6i hmb
  obtain ⟨z0, hz0⟩ : ∃ z0, (wr).setCell ⟨p7, 0, none⟩ (.string (strOfNums nb)) = z0 := ⟨_, rfl⟩
  have Bz0 := hb7.set 0 (.string (strOfNums nb))
  rw [hz0] at Bz0
  have jz0 : (wr).cell? ⟨p7, 0, none⟩ = some (.string ⟨#[]⟩) := hb7.cell 0
  have fz0 := hb7.free 0
  have Dz0 : Blk p7 #[.string (strOfNums nb), .int .u8 0, .slice none 0 0] 30 z0 (fun q => q = p7) := Bz0.1
  have Kz0 := Bz0.2.keep
  clear Bz0
  obtain ⟨z1, hz1⟩ : ∃ z1, (z0).setCell ⟨p7, 1, none⟩ (.int .u8 K6) = z1 := ⟨_, rfl⟩
  have Bz1 := Dz0.set 1 (.int .u8 K6)
  rw [hz1] at Bz1
  have jz1 : (z0).cell? ⟨p7, 1, none⟩ = some (.int .u8 0) := Dz0.cell 1
  have fz1 := Dz0.free 1
  have Dz1 : Blk p7 #[.string (strOfNums nb), .int .u8 K6, .slice none 0 0] 30 z1 (fun q => q = p7) := Bz1.1
  have Kz1 := Bz1.2.keep
  clear Bz1
  obtain ⟨z2, hz2⟩ : ∃ z2, (z1).setCell ⟨p7, 2, none⟩ (.slice A2 pay.length c2) = z2 := ⟨_, rfl⟩
  have Bz2 := Dz1.set 2 (.slice A2 pay.length c2)
  rw [hz2] at Bz2
  have jz2 : (z1).cell? ⟨p7, 2, none⟩ = some (.slice none 0 0) := Dz1.cell 2
  have fz2 := Dz1.free 2
  have Dz2 : Blk p7 #[.string (strOfNums nb), .int .u8 K6, .slice A2 pay.length c2] 30 z2 (fun q => q = p7) := Bz2.1
  have Kz2 := Bz2.2.keep
  clear Bz2
  refine next_win 6 7 (fun a b => a = b) (OneW wr z2) 6 63 (fun _ _ h => .inl h) (fun _ => rfl) (fun _ _ _ h k => h.trans k) (OneW.refl _ _) (OneW.trans _ _) [[(7, none), (54, none)]] [none, none, none, none, none, none, none] (by kernel_rfl) (by kernel_rfl) (by kernel_rfl) (by kernel_rfl) ?_
  intro Ny hNy
  refine relyD_the rfl (fun v w => w = z2) (fun v w w' h r => r.end_ h) ?h6 ?_
  case h6 =>
    intro wq hwq a' hp ht K hK
    subst hwq
    have HK := Lib.hid (hK undef _ (.inr ⟨rfl, rfl⟩) rfl)
    clear hK
    go_wp2_with fail
    exact HK.out
  refine relyD_end ?_
  intro wz hR
  simp only [had, List.take_succ_cons, List.take_zero, List.map_cons, List.map_nil, List.cons_append, List.nil_append, ends, Act.put, List.setIfInBounds_toArray, List.set_cons_zero, List.set_cons_succ]
  intro vz hvz; obtain rfl := hvz.symm
  refine hNy _ _ ?_
  clear hR
  obtain ⟨a0, a1, a2, hb8q⟩ : ∃ a0 a1 a2, Blk p8 #[a0, a1, a2] 30 z2 (fun q => q = p8) := by
    by_cases hpp : p7 = p8
    · subst hpp
      exact ⟨_, _, _, Dz2⟩
    · refine ⟨_, _, _, (Lcl.blk _ _ _).stay ((Lcl.blk _ _ _).stay ((Lcl.blk _ _ _).stay hb8 Kz0 ?_) Kz1 ?_) Kz2 ?_⟩ <;> (intro x hx hz; have hx' : x = p8 := hx; have hz' : x = p7 := hz; omega)
  have X10 := Lib.hid (show Ext w z2 from Below.trans (Below.trans (Below.trans X9.out (Kz0.below X9.out.size (fun x hx hz => by have hz' : x = p7 := hz; omega))) (Kz1.below (Nat.le_trans X9.out.size Kz0.size) (fun x hx hz => by have hz' : x = p7 := hz; omega))) (Kz2.below (Nat.le_trans (Nat.le_trans X9.out.size Kz0.size) Kz1.size) (fun x hx hz => by have hz' : x = p7 := hz; omega)))
  clear hz0 hz1 hz2 jz0 jz1 jz2 fz0 fz1 fz2 hb7 hb8 Dz0 Dz1
  obtain ⟨u0, hu0⟩ : ∃ u0, (z2).setCell ⟨p8, 0, none⟩ (.string (strOfNums mb)) = u0 := ⟨_, rfl⟩
  have Bu0 := hb8q.set 0 (.string (strOfNums mb))
  rw [hu0] at Bu0
  have ju0 : (z2).cell? ⟨p8, 0, none⟩ = some (a0) := hb8q.cell 0
  have fu0 := hb8q.free 0
  have Du0 : Blk p8 #[.string (strOfNums mb), a1, a2] 30 u0 (fun q => q = p8) := Bu0.1
  have Ku0 := Bu0.2.keep
  clear Bu0
  obtain ⟨u1, hu1⟩ : ∃ u1, (u0).setCell ⟨p8, 1, none⟩ (.int .u8 L6) = u1 := ⟨_, rfl⟩
  have Bu1 := Du0.set 1 (.int .u8 L6)
  rw [hu1] at Bu1
  have ju1 : (u0).cell? ⟨p8, 1, none⟩ = some (a1) := Du0.cell 1
  have fu1 := Du0.free 1
  have Du1 : Blk p8 #[.string (strOfNums mb), .int .u8 L6, a2] 30 u1 (fun q => q = p8) := Bu1.1
  have Ku1 := Bu1.2.keep
  clear Bu1
  obtain ⟨u2, hu2⟩ : ∃ u2, (u1).setCell ⟨p8, 2, none⟩ (.slice A2 pay.length c2) = u2 := ⟨_, rfl⟩
  have Bu2 := Du1.set 2 (.slice A2 pay.length c2)
  rw [hu2] at Bu2
  have ju2 : (u1).cell? ⟨p8, 2, none⟩ = some (a2) := Du1.cell 2
  have fu2 := Du1.free 2
  have Du2 : Blk p8 #[.string (strOfNums mb), .int .u8 L6, .slice A2 pay.length c2] 30 u2 (fun q => q = p8) := Bu2.1
  have Ku2 := Bu2.2.keep
  clear Bu2
  refine next_win 7 8 (fun a b => a = b) (OneW z2 u2) 7 127 (fun _ _ h => .inl h) (fun _ => rfl) (fun _ _ _ h k => h.trans k) (OneW.refl _ _) (OneW.trans _ _) [[(8, none), (56, none)]] [none, none, none, none, none, none, none, none] (by kernel_rfl) (by kernel_rfl) (by kernel_rfl) (by kernel_rfl) ?_
  intro Nu hNu
  refine relyD_the rfl (fun v w => w = u2) (fun v w w' h r => r.end_ h) ?h7 ?_
  case h7 =>
    intro wq hwq a' hp ht K hK
    subst hwq
    have HK := Lib.hid (hK undef _ (.inr ⟨rfl, rfl⟩) rfl)
    clear hK
    go_wp2_with fail
    exact HK.out
  refine relyD_end ?_
  intro wz hR
  simp only [had, List.take_succ_cons, List.take_zero, List.map_cons, List.map_nil, List.cons_append, List.nil_append, ends, Act.put, List.setIfInBounds_toArray, List.set_cons_zero, List.set_cons_succ]
  intro vz hvz; obtain rfl := hvz.symm
  refine hNu _ _ ?_
  clear hR
  refine next_done rfl ?_
  try simp only [Act.put, List.setIfInBounds_toArray, List.set_cons_zero, List.set_cons_succ]
  have X11 := Lib.hid (show Ext w u2 from Below.trans (Below.trans (Below.trans X10.out (Ku0.below X10.out.size (fun x hx hz => by have hz' : x = p8 := hz; omega))) (Ku1.below (Nat.le_trans X10.out.size Ku0.size) (fun x hx hz => by have hz' : x = p8 := hz; omega))) (Ku2.below (Nat.le_trans (Nat.le_trans X10.out.size Ku0.size) Ku1.size) (fun x hx hz => by have hz' : x = p8 := hz; omega)))
  have hrS := Ext.reads X11.out HR.out
  have hrT := Ext.reads X11.out HR.out
  obtain ⟨n7, k7, A7, y7, c7, F7⟩ : ∃ n7 k7 A7 y7 c7, Fr p7 n7 k7 A7 y7 c7 u2 := by
    by_cases hpp : p7 = p8
    · subst hpp
      exact ⟨_, _, _, _, _, Du2, HMS.out, hml.1, hml.2.1, hL6b, HB.out, by omega, hrT⟩
    · refine ⟨_, _, _, _, _, (Lcl.blk _ _ _).stay ((Lcl.blk _ _ _).stay ((Lcl.blk _ _ _).stay Dz2 Ku0 ?_) Ku1 ?_) Ku2 ?_, HNS.out, hnl.1, hnl.2.1, hK6b, HB.out, by omega, hrS⟩ <;> (intro x hx hz; have hx' : x = p7 := hx; have hz' : x = p8 := hz; omega)
  obtain ⟨n8, k8, A8, y8, c8, F8⟩ : ∃ n8 k8 A8 y8 c8, Fr p8 n8 k8 A8 y8 c8 u2 := ⟨_, _, _, _, _, Du2, HMS.out, hml.1, hml.2.1, hL6b, HB.out, by omega, hrT⟩
  have G7 := Lib.hid F7
  have G8 := Lib.hid F8
  clear F7 F8 Du2 Ku0 Ku1 Ku2 hu0 hu1 hu2 ju0 ju1 ju2 fu0 fu1 fu2 Du0 Du1 hb8q Dz2 Kz0 Kz1 Kz2 hrS hrT X10 X9 HR9 HQ9
  have e0 := G7.out.blk.cell 0
  have e1 := G7.out.blk.cell 1
  have e2 := G7.out.blk.cell 2
  have d0 := G8.out.blk.cell 0
  have d1 := G8.out.blk.cell 1
  have d2 := G8.out.blk.cell 2
  simp only [List.getElem?_toArray, List.getElem?_cons_zero, List.getElem?_cons_succ] at e0 e1 e2 d0 d1 d2
  have HP := Lib.hid (put_c n7 y7 k7 c7 A7 u2 G7.out.rd G7.out.yb G7.out.nb (by have := G7.out.yl; omega) G7.out.ok)
  go_wp2_with fail
  refine HP.out.mono ?_
  rintro e w13 ⟨A13, c13, rfl, hrd13, _, _, hx13⟩
  have X13 := Lib.hid (Ext.trans _ _ _ X11.out hx13)
  have I7 := Lib.hid (G7.out.ext hx13)
  have I8 := Lib.hid (G8.out.ext hx13)
  have HRD13 := Lib.hid hrd13
  have HP8 := Lib.hid (put_c n8 y8 k8 c8 A8 w13 I8.out.rd I8.out.yb I8.out.nb (by have := I8.out.yl; omega) I8.out.ok)
  replace e0 := hx13.cell e0
  replace e1 := hx13.cell e1
  replace e2 := hx13.cell e2
  replace d0 := hx13.cell d0
  replace d1 := hx13.cell d1
  replace d2 := hx13.cell d2
  clear hx13 hrd13 G7 G8 HP X11
  go_wp2_with fail
  refine HP8.out.mono ?_
  rintro e w14 ⟨A14, c14, rfl, hrd14, _, _, hx14⟩
  have X14 := Lib.hid (Ext.trans _ _ _ X13.out hx14)
  have J7 := I7.out.ext hx14
  have J8 := I8.out.ext hx14
  replace e0 := hx14.cell e0
  replace e1 := hx14.cell e1
  replace e2 := hx14.cell e2
  replace d0 := hx14.cell d0
  replace d1 := hx14.cell d1
  replace d2 := hx14.cell d2
  have f7 := frame_bytes J7.nb J7.yb J7.n2 (show k7 ≤ 255 by have := J7.kb; omega)
  have f8 := frame_bytes J8.nb J8.yb J8.n2 (show k8 ≤ 255 by have := J8.kb; omega)
  have hinj := fun h => frame_inj J7.nb J7.yb J7.ok J8.nb J8.yb J8.ok h
  have hs1 : ¬ n7 = n8 → ¬ (strOfNums n7).toList = (strOfNums n8).toList := str_ne J7.nb J8.nb
  have hs2 : ¬ y7 = y8 → ¬ (strOfNums y7).toList = (strOfNums y8).toList := str_ne J7.yb J8.yb
  have hs3 : ¬ frameB n7 k7 y7 = frameB n8 k8 y8 → ¬ (strOfNums (frameB n7 k7 y7)).toList = (strOfNums (frameB n8 k8 y8)).toList := str_ne f7 f8
  have HS1 := Lib.hid hs1
  have HS2 := Lib.hid hs2
  have HS3 := Lib.hid hs3
  have HIJ := Lib.hid hinj
  have cv1 : (convert 22 9 (.slice A7 y7.length c7)).run Try.prog w14 = .ok (.string (strOfNums y7)) w14 := J7.rd.string (P := Try.prog) Try.underlying22 Try.underlying5 Try.underlying9 c7
  have cv2 : (convert 22 9 (.slice A8 y8.length c8)).run Try.prog w14 = .ok (.string (strOfNums y8)) w14 := J8.rd.string (P := Try.prog) Try.underlying22 Try.underlying5 Try.underlying9 c8
  have cv3 : (convert 22 9 (.slice A13 (frameB n7 k7 y7).length c13)).run Try.prog w14 = .ok (.string (strOfNums (frameB n7 k7 y7))) w14 := (hx14.reads HRD13.out).string (P := Try.prog) Try.underlying22 Try.underlying5 Try.underlying9 c13
  have cv4 : (convert 22 9 (.slice A14 (frameB n8 k8 y8).length c14)).run Try.prog w14 = .ok (.string (strOfNums (frameB n8 k8 y8))) w14 := hrd14.string (P := Try.prog) Try.underlying22 Try.underlying5 Try.underlying9 c14
  clear hx14 hrd14 I7 I8 HP8 X13 J7 J8 f7 f8 hinj hs1 hs2 hs3 HRD13
  have HV := Lib.hid (show n7 = n8 → k7 = k8 → y7 = y8 → frameB n7 k7 y7 = frameB n8 k8 y8 from by rintro rfl rfl rfl; rfl)
  generalize frameB n7 k7 y7 = V7 at cv3 HS3 HIJ HV ⊢
  generalize frameB n8 k8 y8 = V8 at cv4 HS3 HIJ HV ⊢
  have fin (X Y : List Int) (h : ¬ (strOfNums X).toList = (strOfNums Y).toList) : ((strOfNums X).toList == (strOfNums Y).toList) = false := by simpa using h
  by_cases hN : n7 = n8
  · by_cases hK : k7 = k8
    · by_cases hY : y7 = y8
      · have hV := HV.out hN hK hY
        subst hN hK hY hV
        go_wp2_with fail
        go_ret
        exact ⟨rfl, X14.out⟩
      · have h3 := HS3.out (fun e => hY (HIJ.out e).2.2)
        have h2 := HS2.out hY
        have b3 := fin _ _ h3
        have b2 := fin _ _ h2
        subst hN hK
        clear HV HIJ HS1 HS2 HS3 fin
        go_wp2_with fail
        go_ret
        exact ⟨rfl, X14.out⟩
    · have h3 := HS3.out (fun e => hK (HIJ.out e).2.1)
      have h2 : ¬ (k7 : Int) = (k8 : Int) := by omega
      have b3 := fin _ _ h3
      have b2 : decide ((k7 : Int) = (k8 : Int)) = false := by simpa using h2
      have b4 : ((k7 : Int) == (k8 : Int)) = false := by simpa using h2
      subst hN
      clear HV HIJ HS1 HS2 HS3 fin
      go_wp2_with fail
      go_ret
      exact ⟨rfl, X14.out⟩
  · have h3 := HS3.out (fun e => hN (HIJ.out e).1)
    have h2 := HS1.out hN
    have b3 := fin _ _ h3
    have b2 := fin _ _ h2
    clear HV HIJ HS1 HS2 HS3 fin
    go_wp2_with fail
    go_ret
    exact ⟨rfl, X14.out⟩
set_option maxHeartbeats 16000000 in
set_option maxRecDepth 20000 in
theorem apart_nn (A1 : Option Addr) (c1 : Nat) (nm : List Int) (k : Nat) (A2 : Option Addr) (c2 : Nat) (pay : List Int) (B1 : Option Addr) (d1 : Nat) (nn : List Int) (l : Nat) (B2 : Option Addr) (d2 : Nat) (qay : List Int) (m : Nat) (r : Int) (w : World)
    (HN : RowKit.Hid (Reads w .u8 A1 nm)) (HR : RowKit.Hid (Reads w .u8 A2 pay)) (HM : RowKit.Hid (Reads w .u8 B1 nn)) (HQ : RowKit.Hid (Reads w .u8 B2 qay)) (HNB : RowKit.Hid (IsBytes nm)) (HB : RowKit.Hid (IsBytes pay)) (HMB : RowKit.Hid (IsBytes nn)) (HQB : RowKit.Hid (IsBytes qay))
    (hk : k ≤ 255) (hl : l ≤ 255) (hm2 : Int.tmod (m : Int) 2 = 1) (hm3 : Int.tmod (m : Int) 3 = r) (hr : ¬ r = 0) :
    Calls Try.prog 6 #[.agg #[.slice A1 nm.length c1, .int .u8 k, .slice A2 pay.length c2], .agg #[.slice B1 nn.length d1, .int .u8 l, .slice B2 qay.length d2], .int .u8 m] w fun e w' => e = .returned (.bool true) ∧ Below w.heap.size w w' := by
  have hx0 : Ext w (w.alloc (.cells #[.slice A1 nm.length c1, .int .u8 k, .slice A2 pay.length c2] 24)) := (Below.refl _ _).alloc (Nat.le_refl _) _
  have hb0 := heap_alloc_new w (.cells #[.slice A1 nm.length c1, .int .u8 k, .slice A2 pay.length c2] 24)
  have hs0 : (w.alloc (.cells #[.slice A1 nm.length c1, .int .u8 k, .slice A2 pay.length c2] 24)).heap.size = w.heap.size + 1 := by simp
  obtain ⟨wa, hwa⟩ : ∃ wa, w.alloc (.cells #[.slice A1 nm.length c1, .int .u8 k, .slice A2 pay.length c2] 24) = wa := ⟨_, rfl⟩
  rw [hwa] at hx0 hb0 hs0
  have hx1 : Ext wa (wa.alloc (.cells #[.slice B1 nn.length d1, .int .u8 l, .slice B2 qay.length d2] 24)) := (Below.refl _ _).alloc (Nat.le_refl _) _
  have hb1 := heap_alloc_new wa (.cells #[.slice B1 nn.length d1, .int .u8 l, .slice B2 qay.length d2] 24)
  have HX := Lib.hid (Ext.trans _ _ _ hx0 hx1)
  have HS := Lib.hid ((hx1.block _ (Array.getElem?_eq_some_iff.1 hb0).1).trans hb0)
  rw [hs0] at hb1
  have HT := Lib.hid hb1
  clear hx0 hb0 hx1 hb1
  have hr1 : (r == 0) = false := by simpa using hr
  have hr2 : decide (r = 0) = false := by simpa using hr
  go_enter Try.func6, Try.ntmps6
  go_wp2_with fail
  refine (awake20 _).mono ?_
  rintro e w1 ⟨rfl, hx1⟩
  have X1 := Lib.hid (Ext.trans _ _ _ HX.out hx1)
  have HS1 := Lib.hid (show Blk w.heap.size #[.slice A1 nm.length c1, .int .u8 k, .slice A2 pay.length c2] 24 w1 (fun q => q = w.heap.size) from ⟨(hx1.block _ (Array.getElem?_eq_some_iff.1 HS.out).1).trans HS.out, fun _ => Iff.rfl⟩)
  have HT1 := Lib.hid (show Blk (w.heap.size + 1) #[.slice B1 nn.length d1, .int .u8 l, .slice B2 qay.length d2] 24 w1 (fun q => q = w.heap.size + 1) from ⟨(hx1.block _ (Array.getElem?_eq_some_iff.1 HT.out).1).trans HT.out, fun _ => Iff.rfl⟩)
  clear hx1 HX HS HT hwa hs0
  obtain ⟨pS, hpS⟩ : ∃ pS, w.heap.size = pS := ⟨_, rfl⟩
  have s0 : w1.cell? ⟨w.heap.size, 0, none⟩ = some (.slice A1 nm.length c1) := HS1.out.cell 0
  have s1 : w1.cell? ⟨w.heap.size, 1, none⟩ = some (.int .u8 k) := HS1.out.cell 1
  have s2 : w1.cell? ⟨w.heap.size, 2, none⟩ = some (.slice A2 pay.length c2) := HS1.out.cell 2
  have t0 : w1.cell? ⟨w.heap.size + 1, 0, none⟩ = some (.slice B1 nn.length d1) := HT1.out.cell 0
  have t1 : w1.cell? ⟨w.heap.size + 1, 1, none⟩ = some (.int .u8 l) := HT1.out.cell 1
  have t2 : w1.cell? ⟨w.heap.size + 1, 2, none⟩ = some (.slice B2 qay.length d2) := HT1.out.cell 2
  have tf := HT1.out.free 2
  clear hpS
  by_cases q1 : 100 < nm.length
  · have g1 : decide ((100 : Int) < (nm.length : Int)) = true := by simp; omega
    go_wp2_with fail
    go_ret
    exact ⟨rfl, X1.out⟩
  have g1 : decide ((100 : Int) < (nm.length : Int)) = false := by simp; omega
  by_cases q2 : 100 < nn.length
  · have g2 : decide ((100 : Int) < (nn.length : Int)) = true := by simp; omega
    go_wp2_with fail
    go_ret
    exact ⟨rfl, X1.out⟩
  have g2 : decide ((100 : Int) < (nn.length : Int)) = false := by simp; omega
  by_cases q3 : 100 < pay.length
  · have g3 : decide ((100 : Int) < (pay.length : Int)) = true := by simp; omega
    go_wp2_with fail
    go_ret
    exact ⟨rfl, X1.out⟩
  have g3 : decide ((100 : Int) < (pay.length : Int)) = false := by simp; omega
  by_cases q4 : 100 < qay.length
  · have g4 : decide ((100 : Int) < (qay.length : Int)) = true := by simp; omega
    go_wp2_with fail
    go_ret
    exact ⟨rfl, X1.out⟩
  have g4 : decide ((100 : Int) < (qay.length : Int)) = false := by simp; omega
  go_wp2_with fail
  have HS4 := HS1
  have HT4 := HT1
  have X4 := X1
  have HT6 := HT4
  have HS6 := HS4
  have X6 := X4
  obtain ⟨y3, hy3⟩ : ∃ y3, w1 = y3 := ⟨_, rfl⟩
  rw [hy3] at HT6 HS6 X6 ⊢
  clear hy3 tf
  have HN6 := Lib.hid (Ext.reads X6.out HN.out)
  have HR6 := Lib.hid (Ext.reads X6.out HR.out)
  have HM6 := Lib.hid (Ext.reads X6.out HM.out)
  have HQ6 := Lib.hid (Ext.reads X6.out HQ.out)
  clear HT4 HS4 X4
  go_wp2_with fail
  refine wp_region_next (by kernel_rfl) ?_
  refine next_win 0 6 Ext Ext 999 0 (fun _ _ h => h) Ext.refl Ext.trans Ext.refl Ext.trans [[(3, none)], [(53, some 0)], [(4, none)], [(55, some 2)], [], []] [some 53, some 54, some 55, some 56, some 7, some 8] (by kernel_rfl) (by kernel_rfl) (by kernel_rfl) (by kernel_rfl) ?_
  intro Nx hNx
  apply relyD_const (by decide) (by decide); case h => (intro wr hR a' h3 K hK; have HB := Ext.keep (Lcl.blk _ _ _) hR.undrew HS6.out; have j0 := HB.cell 0; have j1 := HB.cell 1; have j2 := HB.cell 2; clear HB; go_wp2_with fail; exact Ext.refl _)
  apply relyD_const (by decide) (by decide)
  case h =>
    intro wr hR a' h53 K hK
    have HK := Lib.hid hK
    clear hK
    go_wp2_with fail
    refine (small_c A1 A2 c1 c2 pay.length nm k wr (hR.undrew.reads HN6.out) (by omega) (by omega)).mono ?_
    rintro e w8 ⟨rfl, hx8⟩
    go_wp2_with fail
    exact HK.out _ hx8
  apply relyD_const (by decide) (by decide); case h => (intro wr hR a' h4 K hK; have HB := Ext.keep (Lcl.blk _ _ _) hR.undrew HT6.out; have j0 := HB.cell 0; have j1 := HB.cell 1; have j2 := HB.cell 2; clear HB; go_wp2_with fail; exact Ext.refl _)
  apply relyD_const (by decide) (by decide)
  case h =>
    intro wr hR a' h55 K hK
    have HK := Lib.hid hK
    clear hK
    go_wp2_with fail
    refine (small_c B1 B2 d1 d2 qay.length nn l wr (hR.undrew.reads HM6.out) (by omega) (by omega)).mono ?_
    rintro e w8 ⟨rfl, hx8⟩
    go_wp2_with fail
    exact HK.out _ hx8
  refine relyD_rel (by decide) (by decide) (fun v w => ∃ p, v = .pointer (some ⟨p, 0, none⟩) ∧ y3.heap.size ≤ p ∧ Blk p #[.string ⟨#[]⟩, .int .u8 0, .slice none 0 0] 30 w (fun q => q = p)) (fun v w w' ⟨p, e, hp, h⟩ x => ⟨p, e, hp, Ext.keep (Lcl.blk _ _ _) x h⟩) ?h4 ?_
  case h4 =>
    intro wr hR a' K hK
    have hnb := heap_alloc_new wr (.cells #[.string ⟨#[]⟩, .int .u8 0, .slice none 0 0] 30)
    have HK := Lib.hid (hK _ _ ((Below.refl _ _).alloc (Nat.le_refl _) _) ⟨wr.heap.size, rfl, hR.undrew.size, hnb, fun _ => Iff.rfl⟩)
    clear hK hnb
    go_wp2_with fail
    exact HK.out
  refine relyD_rel (by decide) (by decide) (fun v w => ∃ p, v = .pointer (some ⟨p, 0, none⟩) ∧ y3.heap.size ≤ p ∧ Blk p #[.string ⟨#[]⟩, .int .u8 0, .slice none 0 0] 30 w (fun q => q = p)) (fun v w w' ⟨p, e, hp, h⟩ x => ⟨p, e, hp, Ext.keep (Lcl.blk _ _ _) x h⟩) ?h5 ?_
  case h5 =>
    intro wr hR a' K hK
    have hnb := heap_alloc_new wr (.cells #[.string ⟨#[]⟩, .int .u8 0, .slice none 0 0] 30)
    have HK := Lib.hid (hK _ _ ((Below.refl _ _).alloc (Nat.le_refl _) _) ⟨wr.heap.size, rfl, hR.undrew.size, hnb, fun _ => Iff.rfl⟩)
    clear hK hnb
    go_wp2_with fail
    exact HK.out
  refine relyD_end ?_
  intro wr hR
  simp only [had, List.take_succ_cons, List.take_zero, List.map_cons, List.map_nil, List.cons_append, List.nil_append, ends, Act.put, List.setIfInBounds_toArray, List.set_cons_zero, List.set_cons_succ]
  rintro v4 ⟨p7, rfl, hp7, hb7⟩ v5 ⟨p8, rfl, hp8, hb8⟩
  refine hNx _ _ ?_
  have hE := hR.undrew
  have X9 := Lib.hid (Ext.trans _ _ _ X6.out hE)
  have HR9 := Lib.hid (hE.reads HR6.out)
  have HQ9 := Lib.hid (hE.reads HQ6.out)
  have hsz9 := Nat.le_trans X6.out.size hp7
  have hsz8 := Nat.le_trans X6.out.size hp8
  clear hR hE HS6 HT6 HN6 HR6 HM6 HQ6 X6 hp7 hp8
  obtain ⟨nb, hnb⟩ : ∃ nb, nameS nm = nb := ⟨_, rfl⟩
  rw [hnb]
  have hnl := nameS_len nm
  have HNS := Lib.hid (nameS_bytes HNB.out)
  rw [hnb] at hnl HNS
  obtain ⟨K6, hK6, hK6b⟩ : ∃ K6, k % 6 = K6 ∧ K6 < 6 := ⟨_, rfl, Nat.mod_lt _ (by omega)⟩
  have hK6i : (k : Int) % 6 = (K6 : Int) := by omega
  rw [hK6i]
  clear hK6 hK6i hnb
  obtain ⟨mb, hmb⟩ : ∃ mb, nameS nn = mb := ⟨_, rfl⟩
  rw [hmb]
  have hml := nameS_len nn
  have HMS := Lib.hid (nameS_bytes HMB.out)
  rw [hmb] at hml HMS
  obtain ⟨L6, hL6, hL6b⟩ : ∃ L6, l % 6 = L6 ∧ L6 < 6 := ⟨_, rfl, Nat.mod_lt _ (by omega)⟩
  have hL6i : (l : Int) % 6 = (L6 : Int) := by omega
  rw [hL6i]
  clear hL6 hL6i hmb
  obtain ⟨z0, hz0⟩ : ∃ z0, (wr).setCell ⟨p7, 0, none⟩ (.string (strOfNums nb)) = z0 := ⟨_, rfl⟩
  have Bz0 := hb7.set 0 (.string (strOfNums nb))
  rw [hz0] at Bz0
  have jz0 : (wr).cell? ⟨p7, 0, none⟩ = some (.string ⟨#[]⟩) := hb7.cell 0
  have fz0 := hb7.free 0
  have Dz0 : Blk p7 #[.string (strOfNums nb), .int .u8 0, .slice none 0 0] 30 z0 (fun q => q = p7) := Bz0.1
  have Kz0 := Bz0.2.keep
  clear Bz0
  obtain ⟨z1, hz1⟩ : ∃ z1, (z0).setCell ⟨p7, 1, none⟩ (.int .u8 K6) = z1 := ⟨_, rfl⟩
  have Bz1 := Dz0.set 1 (.int .u8 K6)
  rw [hz1] at Bz1
  have jz1 : (z0).cell? ⟨p7, 1, none⟩ = some (.int .u8 0) := Dz0.cell 1
  have fz1 := Dz0.free 1
  have Dz1 : Blk p7 #[.string (strOfNums nb), .int .u8 K6, .slice none 0 0] 30 z1 (fun q => q = p7) := Bz1.1
  have Kz1 := Bz1.2.keep
  clear Bz1
  obtain ⟨z2, hz2⟩ : ∃ z2, (z1).setCell ⟨p7, 2, none⟩ (.slice A2 pay.length c2) = z2 := ⟨_, rfl⟩
  have Bz2 := Dz1.set 2 (.slice A2 pay.length c2)
  rw [hz2] at Bz2
  have jz2 : (z1).cell? ⟨p7, 2, none⟩ = some (.slice none 0 0) := Dz1.cell 2
  have fz2 := Dz1.free 2
  have Dz2 : Blk p7 #[.string (strOfNums nb), .int .u8 K6, .slice A2 pay.length c2] 30 z2 (fun q => q = p7) := Bz2.1
  have Kz2 := Bz2.2.keep
  clear Bz2
  refine next_win 6 7 (fun a b => a = b) (OneW wr z2) 6 63 (fun _ _ h => .inl h) (fun _ => rfl) (fun _ _ _ h k => h.trans k) (OneW.refl _ _) (OneW.trans _ _) [[(7, none), (54, none)]] [none, none, none, none, none, none, none] (by kernel_rfl) (by kernel_rfl) (by kernel_rfl) (by kernel_rfl) ?_
  intro Ny hNy
  refine relyD_the rfl (fun v w => w = z2) (fun v w w' h r => r.end_ h) ?h6 ?_
  case h6 =>
    intro wq hwq a' hp ht K hK
    subst hwq
    have HK := Lib.hid (hK undef _ (.inr ⟨rfl, rfl⟩) rfl)
    clear hK
    go_wp2_with fail
    exact HK.out
  refine relyD_end ?_
  intro wz hR
  simp only [had, List.take_succ_cons, List.take_zero, List.map_cons, List.map_nil, List.cons_append, List.nil_append, ends, Act.put, List.setIfInBounds_toArray, List.set_cons_zero, List.set_cons_succ]
  intro vz hvz; obtain rfl := hvz.symm
  refine hNy _ _ ?_
  clear hR
  obtain ⟨a0, a1, a2, hb8q⟩ : ∃ a0 a1 a2, Blk p8 #[a0, a1, a2] 30 z2 (fun q => q = p8) := by
    by_cases hpp : p7 = p8
    · subst hpp
      exact ⟨_, _, _, Dz2⟩
    · refine ⟨_, _, _, (Lcl.blk _ _ _).stay ((Lcl.blk _ _ _).stay ((Lcl.blk _ _ _).stay hb8 Kz0 ?_) Kz1 ?_) Kz2 ?_⟩ <;> (intro x hx hz; have hx' : x = p8 := hx; have hz' : x = p7 := hz; omega)
  have X10 := Lib.hid (show Ext w z2 from Below.trans (Below.trans (Below.trans X9.out (Kz0.below X9.out.size (fun x hx hz => by have hz' : x = p7 := hz; omega))) (Kz1.below (Nat.le_trans X9.out.size Kz0.size) (fun x hx hz => by have hz' : x = p7 := hz; omega))) (Kz2.below (Nat.le_trans (Nat.le_trans X9.out.size Kz0.size) Kz1.size) (fun x hx hz => by have hz' : x = p7 := hz; omega)))
  clear hz0 hz1 hz2 jz0 jz1 jz2 fz0 fz1 fz2 hb7 hb8 Dz0 Dz1
  obtain ⟨u0, hu0⟩ : ∃ u0, (z2).setCell ⟨p8, 0, none⟩ (.string (strOfNums mb)) = u0 := ⟨_, rfl⟩
  have Bu0 := hb8q.set 0 (.string (strOfNums mb))
  rw [hu0] at Bu0
  have ju0 : (z2).cell? ⟨p8, 0, none⟩ = some (a0) := hb8q.cell 0
  have fu0 := hb8q.free 0
  have Du0 : Blk p8 #[.string (strOfNums mb), a1, a2] 30 u0 (fun q => q = p8) := Bu0.1
  have Ku0 := Bu0.2.keep
  clear Bu0
  obtain ⟨u1, hu1⟩ : ∃ u1, (u0).setCell ⟨p8, 1, none⟩ (.int .u8 L6) = u1 := ⟨_, rfl⟩
  have Bu1 := Du0.set 1 (.int .u8 L6)
  rw [hu1] at Bu1
  have ju1 : (u0).cell? ⟨p8, 1, none⟩ = some (a1) := Du0.cell 1
  have fu1 := Du0.free 1
  have Du1 : Blk p8 #[.string (strOfNums mb), .int .u8 L6, a2] 30 u1 (fun q => q = p8) := Bu1.1
  have Ku1 := Bu1.2.keep
  clear Bu1
  obtain ⟨u2, hu2⟩ : ∃ u2, (u1).setCell ⟨p8, 2, none⟩ (.slice B2 qay.length d2) = u2 := ⟨_, rfl⟩
  have Bu2 := Du1.set 2 (.slice B2 qay.length d2)
  rw [hu2] at Bu2
  have ju2 : (u1).cell? ⟨p8, 2, none⟩ = some (a2) := Du1.cell 2
  have fu2 := Du1.free 2
  have Du2 : Blk p8 #[.string (strOfNums mb), .int .u8 L6, .slice B2 qay.length d2] 30 u2 (fun q => q = p8) := Bu2.1
  have Ku2 := Bu2.2.keep
  clear Bu2
  refine next_win 7 8 (fun a b => a = b) (OneW z2 u2) 7 127 (fun _ _ h => .inl h) (fun _ => rfl) (fun _ _ _ h k => h.trans k) (OneW.refl _ _) (OneW.trans _ _) [[(8, none), (56, none)]] [none, none, none, none, none, none, none, none] (by kernel_rfl) (by kernel_rfl) (by kernel_rfl) (by kernel_rfl) ?_
  intro Nu hNu
  refine relyD_the rfl (fun v w => w = u2) (fun v w w' h r => r.end_ h) ?h7 ?_
  case h7 =>
    intro wq hwq a' hp ht K hK
    subst hwq
    have HK := Lib.hid (hK undef _ (.inr ⟨rfl, rfl⟩) rfl)
    clear hK
    go_wp2_with fail
    exact HK.out
  refine relyD_end ?_
  intro wz hR
  simp only [had, List.take_succ_cons, List.take_zero, List.map_cons, List.map_nil, List.cons_append, List.nil_append, ends, Act.put, List.setIfInBounds_toArray, List.set_cons_zero, List.set_cons_succ]
  intro vz hvz; obtain rfl := hvz.symm
  refine hNu _ _ ?_
  clear hR
  refine next_done rfl ?_
  try simp only [Act.put, List.setIfInBounds_toArray, List.set_cons_zero, List.set_cons_succ]
  have X11 := Lib.hid (show Ext w u2 from Below.trans (Below.trans (Below.trans X10.out (Ku0.below X10.out.size (fun x hx hz => by have hz' : x = p8 := hz; omega))) (Ku1.below (Nat.le_trans X10.out.size Ku0.size) (fun x hx hz => by have hz' : x = p8 := hz; omega))) (Ku2.below (Nat.le_trans (Nat.le_trans X10.out.size Ku0.size) Ku1.size) (fun x hx hz => by have hz' : x = p8 := hz; omega)))
  have hrS := Ext.reads X11.out HR.out
  have hrT := Ext.reads X11.out HQ.out
  obtain ⟨n7, k7, A7, y7, c7, F7⟩ : ∃ n7 k7 A7 y7 c7, Fr p7 n7 k7 A7 y7 c7 u2 := by
    by_cases hpp : p7 = p8
    · subst hpp
      exact ⟨_, _, _, _, _, Du2, HMS.out, hml.1, hml.2.1, hL6b, HQB.out, by omega, hrT⟩
    · refine ⟨_, _, _, _, _, (Lcl.blk _ _ _).stay ((Lcl.blk _ _ _).stay ((Lcl.blk _ _ _).stay Dz2 Ku0 ?_) Ku1 ?_) Ku2 ?_, HNS.out, hnl.1, hnl.2.1, hK6b, HB.out, by omega, hrS⟩ <;> (intro x hx hz; have hx' : x = p7 := hx; have hz' : x = p8 := hz; omega)
  obtain ⟨n8, k8, A8, y8, c8, F8⟩ : ∃ n8 k8 A8 y8 c8, Fr p8 n8 k8 A8 y8 c8 u2 := ⟨_, _, _, _, _, Du2, HMS.out, hml.1, hml.2.1, hL6b, HQB.out, by omega, hrT⟩
  have G7 := Lib.hid F7
  have G8 := Lib.hid F8
  clear F7 F8 Du2 Ku0 Ku1 Ku2 hu0 hu1 hu2 ju0 ju1 ju2 fu0 fu1 fu2 Du0 Du1 hb8q Dz2 Kz0 Kz1 Kz2 hrS hrT X10 X9 HR9 HQ9
  have e0 := G7.out.blk.cell 0
  have e1 := G7.out.blk.cell 1
  have e2 := G7.out.blk.cell 2
  have d0 := G8.out.blk.cell 0
  have d1 := G8.out.blk.cell 1
  have d2 := G8.out.blk.cell 2
  simp only [List.getElem?_toArray, List.getElem?_cons_zero, List.getElem?_cons_succ] at e0 e1 e2 d0 d1 d2
  have HP := Lib.hid (put_c n7 y7 k7 c7 A7 u2 G7.out.rd G7.out.yb G7.out.nb (by have := G7.out.yl; omega) G7.out.ok)
  go_wp2_with fail
  refine HP.out.mono ?_
  rintro e w13 ⟨A13, c13, rfl, hrd13, _, _, hx13⟩
  have X13 := Lib.hid (Ext.trans _ _ _ X11.out hx13)
  have I7 := Lib.hid (G7.out.ext hx13)
  have I8 := Lib.hid (G8.out.ext hx13)
  have HRD13 := Lib.hid hrd13
  have HP8 := Lib.hid (put_c n8 y8 k8 c8 A8 w13 I8.out.rd I8.out.yb I8.out.nb (by have := I8.out.yl; omega) I8.out.ok)
  replace e0 := hx13.cell e0
  replace e1 := hx13.cell e1
  replace e2 := hx13.cell e2
  replace d0 := hx13.cell d0
  replace d1 := hx13.cell d1
  replace d2 := hx13.cell d2
  clear hx13 hrd13 G7 G8 HP X11
  go_wp2_with fail
  refine HP8.out.mono ?_
  rintro e w14 ⟨A14, c14, rfl, hrd14, _, _, hx14⟩
  have X14 := Lib.hid (Ext.trans _ _ _ X13.out hx14)
  have J7 := I7.out.ext hx14
  have J8 := I8.out.ext hx14
  replace e0 := hx14.cell e0
  replace e1 := hx14.cell e1
  replace e2 := hx14.cell e2
  replace d0 := hx14.cell d0
  replace d1 := hx14.cell d1
  replace d2 := hx14.cell d2
  have f7 := frame_bytes J7.nb J7.yb J7.n2 (show k7 ≤ 255 by have := J7.kb; omega)
  have f8 := frame_bytes J8.nb J8.yb J8.n2 (show k8 ≤ 255 by have := J8.kb; omega)
  have hinj := fun h => frame_inj J7.nb J7.yb J7.ok J8.nb J8.yb J8.ok h
  have hs1 : ¬ n7 = n8 → ¬ (strOfNums n7).toList = (strOfNums n8).toList := str_ne J7.nb J8.nb
  have hs2 : ¬ y7 = y8 → ¬ (strOfNums y7).toList = (strOfNums y8).toList := str_ne J7.yb J8.yb
  have hs3 : ¬ frameB n7 k7 y7 = frameB n8 k8 y8 → ¬ (strOfNums (frameB n7 k7 y7)).toList = (strOfNums (frameB n8 k8 y8)).toList := str_ne f7 f8
  have HS1 := Lib.hid hs1
  have HS2 := Lib.hid hs2
  have HS3 := Lib.hid hs3
  have HIJ := Lib.hid hinj
  have cv1 : (convert 22 9 (.slice A7 y7.length c7)).run Try.prog w14 = .ok (.string (strOfNums y7)) w14 := J7.rd.string (P := Try.prog) Try.underlying22 Try.underlying5 Try.underlying9 c7
  have cv2 : (convert 22 9 (.slice A8 y8.length c8)).run Try.prog w14 = .ok (.string (strOfNums y8)) w14 := J8.rd.string (P := Try.prog) Try.underlying22 Try.underlying5 Try.underlying9 c8
  have cv3 : (convert 22 9 (.slice A13 (frameB n7 k7 y7).length c13)).run Try.prog w14 = .ok (.string (strOfNums (frameB n7 k7 y7))) w14 := (hx14.reads HRD13.out).string (P := Try.prog) Try.underlying22 Try.underlying5 Try.underlying9 c13
  have cv4 : (convert 22 9 (.slice A14 (frameB n8 k8 y8).length c14)).run Try.prog w14 = .ok (.string (strOfNums (frameB n8 k8 y8))) w14 := hrd14.string (P := Try.prog) Try.underlying22 Try.underlying5 Try.underlying9 c14
  clear hx14 hrd14 I7 I8 HP8 X13 J7 J8 f7 f8 hinj hs1 hs2 hs3 HRD13
  have HV := Lib.hid (show n7 = n8 → k7 = k8 → y7 = y8 → frameB n7 k7 y7 = frameB n8 k8 y8 from by rintro rfl rfl rfl; rfl)
  generalize frameB n7 k7 y7 = V7 at cv3 HS3 HIJ HV ⊢
  generalize frameB n8 k8 y8 = V8 at cv4 HS3 HIJ HV ⊢
  have fin (X Y : List Int) (h : ¬ (strOfNums X).toList = (strOfNums Y).toList) : ((strOfNums X).toList == (strOfNums Y).toList) = false := by simpa using h
  by_cases hN : n7 = n8
  · by_cases hK : k7 = k8
    · by_cases hY : y7 = y8
      · have hV := HV.out hN hK hY
        subst hN hK hY hV
        go_wp2_with fail
        go_ret
        exact ⟨rfl, X14.out⟩
      · have h3 := HS3.out (fun e => hY (HIJ.out e).2.2)
        have h2 := HS2.out hY
        have b3 := fin _ _ h3
        have b2 := fin _ _ h2
        subst hN hK
        clear HV HIJ HS1 HS2 HS3 fin
        go_wp2_with fail
        go_ret
        exact ⟨rfl, X14.out⟩
    · have h3 := HS3.out (fun e => hK (HIJ.out e).2.1)
      have h2 : ¬ (k7 : Int) = (k8 : Int) := by omega
      have b3 := fin _ _ h3
      have b2 : decide ((k7 : Int) = (k8 : Int)) = false := by simpa using h2
      have b4 : ((k7 : Int) == (k8 : Int)) = false := by simpa using h2
      subst hN
      clear HV HIJ HS1 HS2 HS3 fin
      go_wp2_with fail
      go_ret
      exact ⟨rfl, X14.out⟩
  · have h3 := HS3.out (fun e => hN (HIJ.out e).1)
    have h2 := HS1.out hN
    have b3 := fin _ _ h3
    have b2 := fin _ _ h2
    clear HV HIJ HS1 HS2 HS3 fin
    go_wp2_with fail
    go_ret
    exact ⟨rfl, X14.out⟩
theorem apart_wf (A1 : Option Addr) (c1 : Nat) (nm : List Int) (k : Int) (A2 : Option Addr) (c2 : Nat) (pay : List Int) (B1 : Option Addr) (d1 : Nat) (nn : List Int) (l : Int) (B2 : Option Addr) (d2 : Nat) (qay : List Int) (m : Int) (w : World)
    (h1 : ArgI w .u8 A1 c1 nm) (h2 : (Lit.int .u8 k).wf = true) (h3 : ArgI w .u8 A2 c2 pay) (h4 : ArgI w .u8 B1 d1 nn) (h5 : (Lit.int .u8 l).wf = true) (h6 : ArgI w .u8 B2 d2 qay) (h7 : (Lit.int .u8 m).wf = true) :
    Calls Try.prog 6 #[.agg #[.slice A1 nm.length c1, .int .u8 k, .slice A2 pay.length c2], .agg #[.slice B1 nn.length d1, .int .u8 l, .slice B2 qay.length d2], .int .u8 m] w fun e w' => e = .returned (.bool true) ∧ Below w.heap.size w w' := by
  have hk := wf_u8 h2
  have hl := wf_u8 h5
  have hm := wf_u8 h7
  obtain ⟨kn, rfl⟩ : ∃ kn : Nat, k = (kn : Int) := ⟨k.toNat, by omega⟩
  obtain ⟨ln, rfl⟩ : ∃ ln : Nat, l = (ln : Int) := ⟨l.toNat, by omega⟩
  obtain ⟨mn, rfl⟩ : ∃ mn : Nat, m = (mn : Int) := ⟨m.toNat, by omega⟩
  have b1 : IsBytes nm := fun x hx => wf_u8 (h1.rng x hx)
  have b3 : IsBytes pay := fun x hx => wf_u8 (h3.rng x hx)
  have b4 : IsBytes nn := fun x hx => wf_u8 (h4.rng x hx)
  have b6 : IsBytes qay := fun x hx => wf_u8 (h6.rng x hx)
  have t2 : Int.tmod (mn : Int) 2 = 0 ∨ Int.tmod (mn : Int) 2 = 1 := by rw [Int.tmod_eq_emod_of_nonneg (by omega)]; omega
  have t3 : Int.tmod (mn : Int) 3 = 0 ∨ Int.tmod (mn : Int) 3 = 1 ∨ Int.tmod (mn : Int) 3 = 2 := by rw [Int.tmod_eq_emod_of_nonneg (by omega)]; omega
  rcases t2 with t2 | t2
  · rcases t3 with t3 | t3
    · exact apart_yy A1 c1 nm kn A2 c2 pay B1 d1 nn ln B2 d2 qay mn w (Lib.hid h1.reads) (Lib.hid h3.reads) (Lib.hid h4.reads) (Lib.hid h6.reads) (Lib.hid b1) (Lib.hid b3) (Lib.hid b4) (Lib.hid b6) (by omega) (by omega) t2 t3
    · exact apart_yn A1 c1 nm kn A2 c2 pay B1 d1 nn ln B2 d2 qay mn _ w (Lib.hid h1.reads) (Lib.hid h3.reads) (Lib.hid h4.reads) (Lib.hid h6.reads) (Lib.hid b1) (Lib.hid b3) (Lib.hid b4) (Lib.hid b6) (by omega) (by omega) t2 rfl (by omega)
  · rcases t3 with t3 | t3
    · exact apart_ny A1 c1 nm kn A2 c2 pay B1 d1 nn ln B2 d2 qay mn w (Lib.hid h1.reads) (Lib.hid h3.reads) (Lib.hid h4.reads) (Lib.hid h6.reads) (Lib.hid b1) (Lib.hid b3) (Lib.hid b4) (Lib.hid b6) (by omega) (by omega) t2 t3
    · exact apart_nn A1 c1 nm kn A2 c2 pay B1 d1 nn ln B2 d2 qay mn _ w (Lib.hid h1.reads) (Lib.hid h3.reads) (Lib.hid h4.reads) (Lib.hid h6.reads) (Lib.hid b1) (Lib.hid b3) (Lib.hid b4) (Lib.hid b6) (by omega) (by omega) t2 rfl (by omega)
end Go.Proofs.Ytfpeeilenocaoaa.Frame
