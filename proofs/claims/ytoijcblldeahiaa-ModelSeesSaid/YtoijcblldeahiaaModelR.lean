/- The document's answer for models: New, All, Start, See. -/
import Derived.Test.YtoijcblldeahiaaModel
namespace Go.Proofs.Ytoijcblldeahiaa.Model
open Go.RowKit Go.Proofs.Ytoijcblldeahiaa.Own Go.Proofs.Ytoijcblldeahiaa.Rely
attribute [local go_sem] max_ints min_ints

theorem size_al (w : World) (o : Obj) : (w.alloc o).heap.size = w.heap.size + 1 := by simp
theorem heap_new_ext {w : World} {o : Obj} {k : Nat} {x : Obj} (h : w.heap[k]? = some x) : (w.alloc o).heap[k]? = some x := by
  have hk : k < w.heap.size := (Array.getElem?_eq_some_iff.1 h).1
  rw [Below.heap_alloc _ _ _ hk]; exact h
theorem blk_cell {w : World} {p : Nat} {cs : Array Value} {t : TypeId} (h : w.heap[p]? = some (.cells cs t (0, 0))) (i : Nat) : w.cell? ⟨p, i, none⟩ = cs[i]? := Blk.cell (S := fun q => q = p) ⟨h, fun _ => Iff.rfl⟩ i
set_option maxHeartbeats 2000000 in
theorem rall_c (A : Option Addr) (c : Nat) (cs : List Int) (w : World) (hr : Reads w .i64 A cs) (hp : ∀ x ∈ cs, 1 ≤ x) (hs : cs.sum ≤ 10000) :
    Calls Try.prog 18 #[.agg #[.slice A cs.length c]] w fun e w' => e = .returned (.int .i64 cs.sum) ∧ Ext w w' := by
  have hx : Ext w (w.alloc (.cells #[.slice A cs.length c] 29)) := (Below.refl _ _).alloc (Nat.le_refl _) _
  have c0 := blk_cell (heap_alloc_new w (.cells #[.slice A cs.length c] 29)) 0
  simp only [List.getElem?_toArray, List.getElem?_cons_zero, List.getElem?_cons_succ] at c0
  have HR := Lib.hid (hx.reads hr)
  have HX := Lib.hid hx
  have HP := Lib.hid hp
  have hlen : cs.length ≤ 10000 := by have := sum_pos hp; omega
  clear hr hx hp
  go_enter Try.func18, Try.ntmps18
  go_wp2_with fail
  generalize w.alloc (.cells #[.slice A cs.length c] 29) = w1 at c0 HR HX ⊢
  generalize w.heap.size = b at c0 ⊢
  go_loopw [3, 4] (fun v i wr => ∃ k : Nat, k ≤ cs.length ∧ i = .int .i64 k ∧ v = .int .i64 (startM cs k) ∧ wr = w1) (fun _ i _ => cs.length - (intOf i).toNat)
  case atStart => exact ⟨0, by omega, rfl, rfl, rfl⟩
  case round =>
    obtain ⟨k, hk, rfl, rfl, rfl⟩ := hrel
    by_cases hlt : k < cs.length
    · obtain ⟨g, o, rfl, _, ck⟩ := HR.out k hlt
      have b1 := start_pos HP.out (k + 1)
      have b2 := start_le HP.out (k + 1)
      have e1 := take_succ_sum hlt
      have b4 := start_pos HP.out k
      have b5 := HP.out _ (getD_mem hlt)
      have HE := Lib.hid e1
      rw [e1] at b1 b2
      clear e1
      generalize cs.getD k 0 = y at ck b1 b2 b5 HE
      generalize startM cs k = x at b1 b2 b4 HE ⊢
      have hk4 : (k : Int) < (cs.length : Int) := by omega
      go_wp2_with fail
      exact ⟨⟨k + 1, by omega, by go_num, by rw [HE.out], trivial⟩, by simp [intOf]; omega⟩
    · obtain rfl : k = cs.length := by omega
      have HE := Lib.hid (show startM cs cs.length = cs.sum by unfold startM; rw [List.take_of_length_le (Nat.le_refl _)])
      go_wp2_with fail
      go_ret
      exact ⟨by rw [← HE.out]; rfl, HX.out⟩
set_option maxHeartbeats 2000000 in
theorem rstart_c (A : Option Addr) (c : Nat) (cs : List Int) (s : Nat) (w : World) (hr : Reads w .i64 A cs) (hp : ∀ x ∈ cs, 1 ≤ x) (hs : cs.sum ≤ 10000) (hsl : s ≤ cs.length) :
    Calls Try.prog 20 #[.agg #[.slice A cs.length c], .int .i64 s] w fun e w' => e = .returned (.int .i64 (startM cs s)) ∧ Ext w w' := by
  have hx : Ext w (w.alloc (.cells #[.slice A cs.length c] 29)) := (Below.refl _ _).alloc (Nat.le_refl _) _
  have c0 := blk_cell (heap_alloc_new w (.cells #[.slice A cs.length c] 29)) 0
  simp only [List.getElem?_toArray, List.getElem?_cons_zero, List.getElem?_cons_succ] at c0
  have HR := Lib.hid (hx.reads hr)
  have HX := Lib.hid hx
  have HP := Lib.hid hp
  have hlen : cs.length ≤ 10000 := by have := sum_pos hp; omega
  clear hr hx hp
  go_enter Try.func20, Try.ntmps20
  go_wp2_with fail
  generalize w.alloc (.cells #[.slice A cs.length c] 29) = w1 at c0 HR HX ⊢
  generalize w.heap.size = b at c0 ⊢
  go_loopw [5, 6] (fun v i wr => ∃ k : Nat, k ≤ s ∧ i = .int .i64 k ∧ v = .int .i64 (startM cs k) ∧ wr = w1) (fun _ i _ => s - (intOf i).toNat)
  case atStart => exact ⟨0, by omega, rfl, rfl, rfl⟩
  case round =>
    obtain ⟨k, hk, rfl, rfl, rfl⟩ := hrel
    by_cases hlt : k < s
    · have hlc : k < cs.length := by omega
      obtain ⟨g, o, rfl, _, ck⟩ := HR.out k hlc
      have b1 := start_pos HP.out (k + 1)
      have b2 := start_le HP.out (k + 1)
      have e1 := take_succ_sum hlc
      have b4 := start_pos HP.out k
      have b5 := HP.out _ (getD_mem hlc)
      have HE := Lib.hid e1
      rw [e1] at b1 b2
      clear e1
      generalize cs.getD k 0 = y at ck b1 b2 b5 HE
      generalize startM cs k = x at b1 b2 b4 HE ⊢
      have hk4 : (k : Int) < (s : Int) := by omega
      go_wp2_with fail
      exact ⟨⟨k + 1, by omega, by go_num, by rw [HE.out], trivial⟩, by simp [intOf]; omega⟩
    · obtain rfl : k = s := by omega
      go_wp2_with fail
      go_ret
      exact ⟨rfl, HX.out⟩
set_option maxHeartbeats 4000000 in
theorem rnew_c (n : Nat) (hn : n ≤ 64) (w : World) :
    Calls Try.prog 13 #[.int .i64 n] w fun e w' => ∃ v S', e = .returned (.agg #[v]) ∧ Row 3 .i64 v (List.replicate n 1) w' S' ∧ Step (fun _ => False) S' w w' := by
  have n1 := Sep.alloc Lcl.emp (w := w) (S := fun _ => False) (fun _ x => x) #[.slice none 0 0] 29
  have n2 := Sep.alloc ((Lcl.blk _ _ _).sep Lcl.emp) n1.1 #[.slice none 0 0] 29
  rw [size_al] at n2
  have H2 := Lib.hid n2.1.assoc'.left_of_emp
  have ST := Lib.hid (n1.2.trans n2.2)
  clear n1 n2
  go_enter Try.func13, Try.ntmps13
  go_wp2_with fail
  generalize hSS : (fun k => k = w.heap.size + 1 ∨ k = w.heap.size ∨ False) = S0 at H2 ST
  clear hSS
  generalize (w.alloc (.cells #[.slice none 0 0] 29)).alloc (.cells #[.slice none 0 0] 29) = w2 at H2 ST ⊢
  generalize w.heap.size = b at H2 ⊢
  have H0 := Lib.hid (show Sep (Row 3 .i64 (.slice none 0 0) (List.replicate 0 1)) (Sep (Blk (b + 1) #[.slice none 0 0] 29) (Blk b #[.slice none 0 0] 29)) w2 S0 from
    ⟨fun _ => False, S0, Row.nil _ _ _, H2.out, fun _ x _ => x, fun k => by simp⟩)
  clear H2
  go_loopw [4] (fun i wr => ∃ (k : Nat) (v : Value) (S' : Nat → Prop), k ≤ n ∧ i = .int .i64 k ∧ Sep (Row 3 .i64 v (List.replicate k 1)) (Sep (Blk (b + 1) #[v] 29) (Blk b #[.slice none 0 0] 29)) wr S' ∧ Step (fun _ => False) S' w wr) (fun i _ => n - (intOf i).toNat)
  case atStart => exact ⟨0, _, S0, by omega, rfl, H0.out, ST.out⟩
  case round =>
    obtain ⟨k, v, S', hk, rfl, hm, hst⟩ := hrel
    obtain ⟨Tr, hTr, _⟩ := hm.left
    obtain ⟨Ar, cr, rfl, _⟩ := hTr.shape
    clear hTr
    have HM := Lib.hid hm
    have ST1 := Lib.hid hst
    obtain ⟨T, hT, _⟩ := hm.second.left
    have c0 : wr.cell? ⟨b + 1, 0, none⟩ = some (.slice Ar (List.replicate k (1 : Int)).length cr) := hT.cell 0
    rw [List.length_replicate] at c0 HM
    have f0 := hT.free 0
    obtain ⟨T2, hT2, _⟩ := hm.comm.assoc.second.left
    have c2 : wr.cell? ⟨b, 0, none⟩ = some (.slice none 0 0) := hT2.cell 0
    have f2 := hT2.free 0
    clear hst hm hT hT2
    by_cases hlt : k < n
    · have hk4 : (k : Int) < (n : Int) := by omega
      go_wp2_with (at_builtin; refine append_lit _ 3 rfl _ _ 27 rfl .i64 8 Try.underlying27 info_i64 (by decide) _ (List.replicate k 1) [1] 1 1 rfl rfl rfl rfl ((Lcl.blk _ _ _).sep (Lcl.blk _ _ _)) HM.out (by simp; omega) ?_; intro A' c' w' S2 h' st'; rw [List.length_replicate] at h' ⊢; obtain ⟨T', hT', _⟩ := h'.second.left; have c0' : w'.cell? ⟨b + 1, 0, none⟩ = some (.slice Ar k cr) := hT'.cell 0; have f0' := hT'.free 0; have H' := Lib.hid h'; have ST' := Lib.hid st'; clear h' st' hT')
      have hm2 := H'.out.second
      obtain ⟨S4, S5, hb, hrest, hd, hiff⟩ := hm2
      have hset := Blk.set hb 0 (.slice A' (k + 1) c')
      have hstep := Sep.step ((Lcl.row _ _ _ _).sep (Lcl.blk _ _ _)) (A' := Blk (b + 1) #[.slice A' (k + 1) c'] 29) hrest hd hset.1 hset.2
      have hS : S2 = fun k => S4 k ∨ S5 k := funext fun k => propext (hiff k)
      rw [hS] at ST'
      have hrel := hstep.1.second
      rw [← rep_succ] at hrel
      exact ⟨⟨k + 1, _, _, by omega, by go_num, hrel, (ST1.out.trans ST'.out).trans hstep.2⟩, by simp [intOf]; omega⟩
    · obtain rfl : k = n := by omega
      obtain ⟨S4, S5, hb, hrest, hd, hiff⟩ := HM.out.assoc'.comm
      have hset := Blk.set hb 0 (.slice Ar k cr)
      have hstep := Sep.step ((Lcl.row _ _ _ _).sep (Lcl.blk _ _ _)) (A' := Blk b #[.slice Ar k cr] 29) hrest hd hset.1 hset.2
      have hS : S' = fun k => S4 k ∨ S5 k := funext fun k => propext (hiff k)
      rw [hS] at ST1
      have HST := Lib.hid (ST1.out.trans hstep.2)
      obtain ⟨T9, h9, hsub⟩ := hstep.1.second.left
      have H9 := Lib.hid h9
      have HSUB := Lib.hid hsub
      have c9 : (wr.setCell ⟨b, 0, none⟩ (.slice Ar k cr)).cell? ⟨b, 0, none⟩ = some (.slice Ar k cr) := hset.1.cell 0
      clear hb hrest hd hiff hset hstep hS h9 hsub
      go_wp2_with fail
      exact bodyPost_ret (v := .agg #[.slice Ar k cr]) (by simp [results, Try.results13, go_sem, c9]) rfl ⟨_, T9, rfl, H9.out, HST.out.less HSUB.out⟩

theorem see_start (A : Option Addr) (c : Nat) (cs : List Int) (w : World) (hr : Reads w .i64 A cs) :
    ∃ S3, Sep (Row 3 .i64 (.slice (some ⟨w.heap.size + 1 + 1, 0, none⟩) 0 0) []) (Blk (w.heap.size + 1) #[.slice none 0 0] 29) (((w.alloc (.cells #[.slice A cs.length c] 29)).alloc (.cells #[.slice none 0 0] 29)).alloc (.cells #[] 3)) S3 ∧
      Step (fun _ => False) S3 w (((w.alloc (.cells #[.slice A cs.length c] 29)).alloc (.cells #[.slice none 0 0] 29)).alloc (.cells #[] 3)) ∧
      Reads (((w.alloc (.cells #[.slice A cs.length c] 29)).alloc (.cells #[.slice none 0 0] 29)).alloc (.cells #[] 3)) .i64 A cs ∧
      (((w.alloc (.cells #[.slice A cs.length c] 29)).alloc (.cells #[.slice none 0 0] 29)).alloc (.cells #[] 3)).cell? ⟨w.heap.size, 0, none⟩ = some (.slice A cs.length c) := by
  have hx : Ext w (w.alloc (.cells #[.slice A cs.length c] 29)) := (Below.refl _ _).alloc (Nat.le_refl _) _
  have hb := heap_alloc_new w (.cells #[.slice A cs.length c] 29)
  have hsz := size_al w (.cells #[.slice A cs.length c] 29)
  generalize w.alloc (.cells #[.slice A cs.length c] 29) = w1 at hx hb hsz ⊢
  have hx2 : Ext w1 (w1.alloc (.cells #[.slice none 0 0] 29)) := (Below.refl _ _).alloc (Nat.le_refl _) _
  have n2 := Sep.alloc Lcl.emp (w := w1) (S := fun _ => False) (fun _ x => x) #[.slice none 0 0] 29
  have hsz2 := size_al w1 (.cells #[.slice none 0 0] 29)
  have h2 := n2.1.left_of_emp
  have st2 := n2.2
  rw [hsz] at h2 st2 hsz2
  generalize w1.alloc (.cells #[.slice none 0 0] 29) = w2 at hx2 h2 st2 hsz2 ⊢
  have n3 := sepEmpty (Lcl.blk _ _ _) h2 3 .i64
  have hx3 : Ext w2 (w2.alloc (.cells #[] 3)) := (Below.refl _ _).alloc (Nat.le_refl _) _
  rw [hsz2] at n3
  have st1 : Step (fun _ => False) (fun _ => False) w w1 := ⟨Keep.of_below hx, fun _ h => .inl h⟩
  have hx13 := Ext.trans _ _ _ hx2 hx3
  exact ⟨_, n3.1, (st1.trans st2).trans n3.2, (Ext.trans _ _ _ hx hx13).reads hr, hx13.cell (blk_cell hb 0)⟩
/-- The answer's model: its row, the variable that holds it, the result's variable. -/
def RS (g cap : Nat) (G : List Int) (p4 p5 n : Nat) : Asn := Sep (Row 3 .i64 (.slice (some ⟨g, 0, none⟩) n cap) G) (Sep (Blk p5 #[.slice (some ⟨g, 0, none⟩) n cap] 29) (Blk p4 #[.slice none 0 0] 29))
theorem loc_rs (g cap : Nat) (G : List Int) (p4 p5 n : Nat) : Lcl (RS g cap G p4 p5 n) := (Lcl.row _ _ _ _).sep ((Lcl.blk _ _ _).sep (Lcl.blk _ _ _))
structure RSf (g cap : Nat) (G : List Int) (p4 p5 n : Nat) (w : World) : Prop where
  c5 : w.cell? ⟨p5, 0, none⟩ = some (.slice (some ⟨g, 0, none⟩) n cap)
  c4 : w.cell? ⟨p4, 0, none⟩ = some (.slice none 0 0)
  f4 : w.frozen? ⟨p4, 0, none⟩ = false
  cg : ∀ i, i < G.length → w.cell? ⟨g, i, none⟩ = some (.int .i64 (G.getD i 0))
  fg : ∀ i, w.frozen? ⟨g, i, none⟩ = false
  rd : Reads w .i64 (some ⟨g, 0, none⟩) G
theorem RS.facts {g cap : Nat} {G : List Int} {p4 p5 n : Nat} {w : World} {S : Nat → Prop} (h : RS g cap G p4 p5 n w S) : RSf g cap G p4 p5 n w := by
  obtain ⟨S1, S2, a, ⟨S3, S4, b5, b4, _, _⟩, _, _⟩ := h
  exact ⟨b5.cell 0, b4.cell 0, b4.free 0, fun i hi => a.cell hi, fun i => a.free i, a.readsAt⟩
theorem RS.set {g cap : Nat} {G : List Int} {p4 p5 n : Nat} {w : World} {S : Nat → Prop} (h : RS g cap G p4 p5 n w S) (i : Nat) (x : Int) :
    RS g cap (G.set i x) p4 p5 n (w.setCell ⟨g, i, none⟩ (.int .i64 x)) S ∧ Step S S w (w.setCell ⟨g, i, none⟩ (.int .i64 x)) := sepSet ((Lcl.blk _ _ _).sep (Lcl.blk _ _ _)) h i x
theorem RS.done {g cap : Nat} {G : List Int} {p4 p5 n : Nat} {w : World} {S : Nat → Prop} (h : RS g cap G p4 p5 n w S) :
    ∃ S', Row 3 .i64 (.slice (some ⟨g, 0, none⟩) n cap) G (w.setCell ⟨p4, 0, none⟩ (.slice (some ⟨g, 0, none⟩) n cap)) S' ∧ Step S S' w (w.setCell ⟨p4, 0, none⟩ (.slice (some ⟨g, 0, none⟩) n cap)) ∧
      (w.setCell ⟨p4, 0, none⟩ (.slice (some ⟨g, 0, none⟩) n cap)).cell? ⟨p4, 0, none⟩ = some (.slice (some ⟨g, 0, none⟩) n cap) := by
  obtain ⟨S4, S5, hb, hrest, hd, hiff⟩ := h.assoc'.comm
  have hset := Blk.set hb 0 (.slice (some ⟨g, 0, none⟩) n cap)
  have hstep := Sep.step ((Lcl.row _ _ _ _).sep (Lcl.blk _ _ _)) (A' := Blk p4 #[.slice (some ⟨g, 0, none⟩) n cap] 29) hrest hd hset.1 hset.2
  have hS : S = fun k => S4 k ∨ S5 k := funext fun k => propext (hiff k)
  obtain ⟨T9, h9, hsub⟩ := hstep.1.second.left
  rw [hS]
  exact ⟨T9, h9, hstep.2.less hsub, hset.1.cell 0⟩
set_option maxHeartbeats 8000000 in
theorem rsee_c (A : Option Addr) (c : Nat) (cs : List Int) (s : Nat) (w : World) (hr : Reads w .i64 A cs) (hw : WfM cs) (hs : s < cs.length) :
    Calls Try.prog 15 #[.agg #[.slice A cs.length c], .int .i64 s] w fun e w' => ∃ v S', e = .returned (.agg #[v]) ∧ Row 3 .i64 v (seeM cs s) w' S' ∧ Step (fun _ => False) S' w w' := by
  obtain ⟨S3, h3, st3, hr3, c0⟩ := see_start A c cs w hr
  have H3 := Lib.hid h3
  have ST3 := Lib.hid st3
  have HR := Lib.hid hr3
  have HW := Lib.hid hw
  have hle := hw.le
  clear h3 st3 hr3 hr
  go_enter Try.func15, Try.ntmps15
  go_wp2_with (at_builtin; refine append_row _ rfl _ _ 27 rfl 3 .i64 8 Try.underlying27 info_i64 (by decide) _ [] cs A cs.length c rfl rfl rfl (Lcl.blk _ _ _) H3.out HR.out (by simp; omega) ?_; intro A' c' w' S' h' st'; have H' := Lib.hid h'; have ST' := Lib.hid (ST3.out.trans st'); clear h' st')
  have hn := H'.out
  rw [List.nil_append, List.length_nil, Nat.zero_add] at hn
  obtain ⟨T0, hT0, _⟩ := hn.left
  obtain ⟨g, cap, hve, _, _⟩ := hT0.form hw.lt
  cases hve
  have n5 := Sep.alloc ((Lcl.row _ _ _ _).sep (Lcl.blk _ _ _)) hn #[.slice (some ⟨g, 0, none⟩) cs.length c'] 29
  have H5 := Lib.hid (show RS g c' cs (w.heap.size + 1) w'.heap.size cs.length _ _ from n5.1.second)
  have ST5 := Lib.hid (ST'.out.trans n5.2)
  clear n5 hn hT0 H' ST' H3 ST3 HR c0
  generalize hSS : (fun k => k = w'.heap.size ∨ S' k) = S5 at H5 ST5
  clear hSS
  generalize w'.alloc (.cells #[.slice (some ⟨g, 0, none⟩) cs.length c'] 29) = w5 at H5 ST5 ⊢
  generalize w'.heap.size = p5 at H5 ⊢
  generalize w.heap.size + 1 = p4 at H5 ⊢
  have F := H5.out.facts
  have c5 := F.c5
  have fg := F.fg s
  have cg := F.cg s hs
  have b1 := hw.all
  have b2 := hw.pos _ (getD_mem hs)
  have b3 := count_le hw.pos hs
  have b4 := start_pos hw.pos s
  obtain ⟨y, hy⟩ : ∃ y, cs.getD s 0 = y := ⟨_, rfl⟩
  rw [hy] at cg b2 b3
  have HY := Lib.hid hy
  have hy2 : y ≤ 4096 := by omega
  have hs1 := H5.out.set s (y + 24)
  rw [show cs.set s (y + 24) = plusM cs s by unfold plusM; rw [hy]] at hs1
  have HS1 := Lib.hid hs1.1
  have ST1 := Lib.hid (ST5.out.trans hs1.2)
  have HPW := Lib.hid (plus_wf hw hs)
  have hsum := plus_sum hs
  have hln := HPW.out.2.2
  clear hy F b1 b3 b4 hs1 H5
  have HS2 := Lib.hid ((loc_rs _ _ _ _ _ _).keep HS1.out (fun _ _ => rfl) : RS g c' (plusM cs s) p4 p5 cs.length (w5.setCell ⟨g, s, none⟩ (.int .i64 (y + 24))).drew S5)
  have ST2 := Lib.hid (ST1.out.drew)
  clear HS1 ST1 ST5
  go_big_region
  generalize (w5.setCell ⟨g, s, none⟩ (.int .i64 (y + 24))).drew = w6 at HS2 ST2 ⊢
  clear c5 fg cg
  have F := HS2.out.facts
  have c5 := F.c5
  have HALL := rall_c (some ⟨g, 0, none⟩) c' (plusM cs s) w6 F.rd HPW.out.1 (by have := HPW.out.2.1; omega)
  rw [hln, hsum] at HALL
  have HAL := Lib.hid HALL
  clear HALL F
  go_wp2_with fail
  refine HAL.out.mono ?_
  rintro e w7 ⟨rfl, hx7⟩
  have HS3 := Lib.hid (Ext.keep (loc_rs _ _ _ _ _ _) hx7 HS2.out)
  have ST3 := Lib.hid (ST2.out.trans (show Step S5 S5 w6 w7 from ⟨Keep.of_below hx7, fun _ h => .inl h⟩))
  clear HS2 ST2 hx7 HAL c5
  have F := HS3.out.facts
  have c5 := F.c5
  have c4 := F.c4
  have f4 := F.f4
  obtain ⟨z, hz⟩ : ∃ z, cs.sum = z := ⟨_, rfl⟩
  have hz4 := hw.all
  have hz0 : 0 ≤ z := by have := sum_pos hw.pos; omega
  rw [hz] at hz4 hsum ⊢
  clear F
  by_cases hc : z + 24 ≤ 4096
  · have hd : decide (4096 < z + 24) = false := by simp; omega
    have HQ := Lib.hid (show seeM cs s = plusM cs s by unfold seeM; rw [if_pos (by rw [hsum]; exact hc)])
    obtain ⟨S9, h9, st9, c9⟩ := HS3.out.done
    have H9 := Lib.hid h9
    have ST9 := Lib.hid (ST3.out.trans st9)
    clear h9 st9 hsum hz
    go_wp2_with fail
    refine bodyPost_ret (v := .agg #[.slice (some ⟨g, 0, none⟩) cs.length c']) (by simp [results, Try.results15, go_sem, c9]) rfl ⟨_, S9, rfl, ?_, ST9.out⟩
    rw [HQ.out]; exact H9.out
  · have hd : decide (4096 < z + 24) = true := by simp; omega
    have HQ := Lib.hid (show seeM cs s = halfM (plusM cs s) by unfold seeM; rw [if_neg (by rw [hsum]; exact hc)])
    clear hsum hz hz4
    rw [← mix_zero (plusM cs s)] at HS3
    generalize plusM cs s = G at HS3 hln HPW HQ
    go_wp2_with fail
    go_loopw [6] (fun i wr => ∃ k : Nat, k ≤ cs.length ∧ i = .int .i64 k ∧ RS g c' (mixM G k) p4 p5 cs.length wr S5 ∧ Step (fun _ => False) S5 w wr) (fun i _ => cs.length - (intOf i).toNat)
    case atStart => exact ⟨0, by omega, rfl, HS3.out, ST3.out⟩
    case round =>
      obtain ⟨k, hk, rfl, hma, hst⟩ := hrel
      have HM := Lib.hid hma
      have ST := Lib.hid hst
      clear c5 c4 f4
      have F := hma.facts
      have c5 := F.c5
      clear hma hst
      by_cases hlt : k < cs.length
      · have hkG : k < G.length := by omega
        have hml := mix_len G (k := k) (by omega)
        have ck := F.cg k (by omega)
        have fk := F.fg k
        rw [mix_at G hkG] at ck
        have b1 := HPW.out.1 _ (getD_mem hkG)
        have b2 := count_le HPW.out.1 hkG
        have b3 := start_pos HPW.out.1 k
        have b4 := HPW.out.2.1
        obtain ⟨x, hx⟩ : ∃ x, G.getD k 0 = x := ⟨_, rfl⟩
        have hms := mix_set G hkG
        rw [hx] at ck b1 b2 hms
        have hx2 : x ≤ 4120 := by omega
        have htd : Int.tdiv (x + 1) 2 = (x + 1) / 2 := Int.tdiv_eq_ediv_of_nonneg (by omega)
        obtain ⟨X, hX⟩ : ∃ X, (x + 1) / 2 = X := ⟨_, rfl⟩
        rw [hX] at htd hms
        have hXb : 0 ≤ X ∧ X ≤ 4120 := by omega
        clear F hX b2 b3 b4 hx
        have hs1 := HM.out.set k X
        rw [hms] at hs1
        have HS1 := Lib.hid ((loc_rs _ _ _ _ _ _).keep hs1.1 (fun _ _ => rfl) : RS g c' (mixM G (k + 1)) p4 p5 cs.length (wr.setCell ⟨g, k, none⟩ (.int .i64 X)).drew S5)
        have ST1 := Lib.hid (ST.out.trans hs1.2).drew
        clear hs1 hms hml
        have hk4 : (k : Int) < (cs.length : Int) := by omega
        go_wp2_with fail
        go_big_region
        go_wp2_with fail
        exact ⟨⟨k + 1, by omega, by go_num, HS1.out, ST1.out⟩, by simp [intOf]; omega⟩
      · obtain rfl : k = cs.length := by omega
        have hme := HM.out
        rw [← hln, mix_end] at hme
        rw [hln] at hme
        obtain ⟨S9, h9, st9, c9⟩ := hme.done
        have c4 := F.c4
        have f4 := F.f4
        have H9 := Lib.hid h9
        have ST9 := Lib.hid (ST.out.trans st9)
        clear h9 st9 hme F
        go_wp2_with fail
        refine bodyPost_ret (v := .agg #[.slice (some ⟨g, 0, none⟩) cs.length c']) (by simp [results, Try.results15, go_sem, c9]) rfl ⟨_, S9, rfl, ?_, ST9.out⟩
        rw [HQ.out]; exact H9.out
end Go.Proofs.Ytoijcblldeahiaa.Model
