/- P20.1, without the document's answer: a frame has as many bytes as it says; one more byte, one more: at every input, without conditions. -/
import Derived.Test.YtfpeeilenocaoaaFrameS
import Derived.Test.YtfpeeilenocaoaaFrameR
namespace Go.Proofs.Ytfpeeilenocaoaa.Frame
open Go.RowKit Go.Proofs.Ytfpeeilenocaoaa.Own Go.Proofs.Ytfpeeilenocaoaa.Rely Go.Proofs.Ytfpeeilenocaoaa.Crc
attribute [local go_sem] max_ints min_ints

theorem size_al (w : World) (o : Obj) : (w.alloc o).heap.size = w.heap.size + 1 := by simp
theorem heap_set {w : World} {p i : Nat} {cs : Array Value} {t : TypeId} (h : w.heap[p]? = some (.cells cs t (0, 0))) (v : Value) : (w.setCell ⟨p, i, none⟩ v).heap[p]? = some (.cells (cs.setIfInBounds i v) t (0, 0)) :=
  (Blk.set (S := fun q => q = p) ⟨h, fun _ => Iff.rfl⟩ i v).1.1
theorem heap_lt {w : World} {p : Nat} {o : Obj} (h : w.heap[p]? = some o) : p < w.heap.size := (Array.getElem?_eq_some_iff.1 h).1
theorem heap_old {w : World} {o x : Obj} {k : Nat} (h : w.heap[k]? = some x) : (w.alloc o).heap[k]? = some x := by
  rw [Below.heap_alloc _ _ _ (heap_lt h)]; exact h
theorem heap_off {w : World} {p i k : Nat} {x : Obj} (h : w.heap[k]? = some x) (hne : k ≠ p) (v : Value) : (w.setCell ⟨p, i, none⟩ v).heap[k]? = some x := by
  rw [Below.heap_setCell _ _ _ _ hne]; exact h
theorem size_set (w : World) (p : Addr) (v : Value) : (w.setCell p v).heap.size = w.heap.size := by simp [World.setCell]
theorem cellOf {w : World} {p : Nat} {cs : Array Value} {t : TypeId} (h : w.heap[p]? = some (.cells cs t (0, 0))) (i : Nat) : w.cell? ⟨p, i, none⟩ = cs[i]? := Blk.cell (S := fun q => q = p) ⟨h, fun _ => Iff.rfl⟩ i
theorem freeOf {w : World} {p : Nat} {cs : Array Value} {t : TypeId} (h : w.heap[p]? = some (.cells cs t (0, 0))) (i : Nat) : w.frozen? ⟨p, i, none⟩ = false := Blk.free (S := fun q => q = p) ⟨h, fun _ => Iff.rfl⟩ i
/-- Three frames: one, a copy whose payload is put, a copy whose name is. -/
theorem chain3 {w : World} {p5 p6 : Nat} {a b c : Value} {t u : TypeId} (h5 : w.heap[p5]? = some (.cells #[a, b, c] t (0, 0))) (h6 : w.heap[p6]? = some (.cells #[a, b, c] t (0, 0))) (hne : p5 ≠ p6) (v6 s7 : Value) (cx : Array Value) :
    (((w.setCell ⟨p6, 2, none⟩ v6).alloc (.cells #[a, b, c] t)).heap[p5]? = some (.cells #[a, b, c] t (0, 0)) ∧
    (((w.setCell ⟨p6, 2, none⟩ v6).alloc (.cells #[a, b, c] t)).alloc (.cells cx u)).heap[w.heap.size]? = some (.cells #[a, b, c] t (0, 0))) ∧
    ((((w.setCell ⟨p6, 2, none⟩ v6).alloc (.cells #[s7, b, c] t)).alloc (.cells cx u)).heap[p5]? = some (.cells #[a, b, c] t (0, 0))) ∧
    ((((w.setCell ⟨p6, 2, none⟩ v6).alloc (.cells #[s7, b, c] t)).alloc (.cells cx u)).heap[p6]? = some (.cells #[a, b, v6] t (0, 0))) ∧
    ((((w.setCell ⟨p6, 2, none⟩ v6).alloc (.cells #[s7, b, c] t)).alloc (.cells cx u)).heap[w.heap.size]? = some (.cells #[s7, b, c] t (0, 0))) := by
  have l5 := heap_lt h5
  have l6 := heap_lt h6
  have a5 := heap_off (i := 2) h5 hne v6
  have a6 : (w.setCell ⟨p6, 2, none⟩ v6).heap[p6]? = some (.cells #[a, b, v6] t (0, 0)) := heap_set h6 v6
  have a7 := heap_alloc_new (w.setCell ⟨p6, 2, none⟩ v6) (.cells #[a, b, c] t)
  rw [size_set] at a7
  have b7 := heap_old (o := .cells cx u) a7
  have a8 := heap_alloc_new (w.setCell ⟨p6, 2, none⟩ v6) (.cells #[s7, b, c] t)
  rw [size_set] at a8
  exact ⟨⟨heap_old a5, b7⟩, heap_old (heap_old a5), heap_old (heap_old a6), heap_old a8⟩
set_option maxHeartbeats 16000000 in
set_option maxRecDepth 20000 in
theorem sizes_wf (A1 : Option Addr) (c1 : Nat) (nm : List Int) (k : Int) (A2 : Option Addr) (c2 : Nat) (pay : List Int) (x : Int) (w : World) (h1 : ArgI w .u8 A1 c1 nm) (h2 : (Lit.int .u8 k).wf = true) (h3 : ArgI w .u8 A2 c2 pay) (hx : (Lit.int .u8 x).wf = true) :
    Calls Try.prog 8 #[.agg #[.slice A1 nm.length c1, .int .u8 k, .slice A2 pay.length c2], .int .u8 x] w fun e w' => e = .returned (.bool true) ∧ Below w.heap.size w w' := by
  have hkr := wf_u8 h2
  have hxr := wf_u8 hx
  obtain ⟨kn, rfl⟩ : ∃ kn : Nat, k = (kn : Int) := ⟨k.toNat, by omega⟩
  have HR := Lib.hid h3.reads
  have HN := Lib.hid h1.reads
  have HB := Lib.hid (show IsBytes pay from fun x hx => wf_u8 (h3.rng x hx))
  have HNB := Lib.hid (show IsBytes nm from fun x hx => wf_u8 (h1.rng x hx))
  have hx1 : Ext w (w.alloc (.cells #[.slice A1 nm.length c1, .int .u8 kn, .slice A2 pay.length c2] 24)) := (Below.refl _ _).alloc (Nat.le_refl _) _
  have hbk := heap_alloc_new w (.cells #[.slice A1 nm.length c1, .int .u8 kn, .slice A2 pay.length c2] 24)
  have HX1 := Lib.hid hx1
  have HBK := Lib.hid hbk
  clear h1 h2 h3 hx1 hbk hx
  go_enter Try.func8, Try.ntmps8
  go_wp2_with fail
  refine (awake20 _).mono ?_
  rintro e w1 ⟨rfl, hx1⟩
  have X1 := Lib.hid (Ext.trans _ _ _ HX1.out hx1)
  have HB1 := Lib.hid ((hx1.block _ (Array.getElem?_eq_some_iff.1 HBK.out).1).trans HBK.out)
  have k0 : w1.cell? ⟨w.heap.size, 0, none⟩ = some (.slice A1 nm.length c1) := Blk.cell (S := fun q => q = w.heap.size) ⟨HB1.out, fun _ => Iff.rfl⟩ 0
  have k1 : w1.cell? ⟨w.heap.size, 1, none⟩ = some (.int .u8 kn) := Blk.cell (S := fun q => q = w.heap.size) ⟨HB1.out, fun _ => Iff.rfl⟩ 1
  have k2 : w1.cell? ⟨w.heap.size, 2, none⟩ = some (.slice A2 pay.length c2) := Blk.cell (S := fun q => q = w.heap.size) ⟨HB1.out, fun _ => Iff.rfl⟩ 2
  clear hx1 HX1 HBK
  by_cases hl : 100 < nm.length
  · have g1 : decide ((100 : Int) < (nm.length : Int)) = true := by simp; omega
    go_wp2_with fail
    go_ret
    exact ⟨rfl, X1.out⟩
  have g1 : decide ((100 : Int) < (nm.length : Int)) = false := by simp; omega
  by_cases hlp : 100 < pay.length
  · have g2 : decide ((100 : Int) < (pay.length : Int)) = true := by simp; omega
    go_wp2_with fail
    go_ret
    exact ⟨rfl, X1.out⟩
  have g2 : decide ((100 : Int) < (pay.length : Int)) = false := by simp; omega
  have HN1 := Lib.hid (Ext.reads X1.out HN.out)
  have HR1 := Lib.hid (Ext.reads X1.out HR.out)
  go_wp2_with fail
  refine (small_c A1 A2 c1 c2 pay.length nm kn w1 HN1.out (by omega) (by omega)).mono ?_
  rintro e w2 ⟨rfl, hx2⟩
  have X2 := Lib.hid (Ext.trans _ _ _ X1.out hx2)
  have hnl := nameS_len nm
  have HNS := Lib.hid (nameS_bytes HNB.out)
  have hnn : (nameS nm).length = nm.length + 1 := by omega
  obtain ⟨K6, hK6, hK6b⟩ : ∃ K6, kn % 6 = K6 ∧ K6 < 6 := ⟨_, rfl, Nat.mod_lt _ (by omega)⟩
  rw [hK6]
  clear hx2 k0 k1 k2 HB1 hK6
  generalize nameS nm = nb at hnl hnn HNS
  have hnb1 : 1 ≤ nb.length := hnl.1
  have hnb2 : nb.length ≤ 101 := by omega
  clear hnl hnn
  -- f, and g, a copy of it
  have hx3 : Ext w2 (w2.alloc (.cells #[.string (strOfNums nb), .int .u8 K6, .slice A2 pay.length c2] 30)) := (Below.refl _ _).alloc (Nat.le_refl _) _
  have hb3 := heap_alloc_new w2 (.cells #[.string (strOfNums nb), .int .u8 K6, .slice A2 pay.length c2] 30)
  have hs3 := size_al w2 (.cells #[.string (strOfNums nb), .int .u8 K6, .slice A2 pay.length c2] 30)
  have X3 := Lib.hid (Ext.trans _ _ _ X2.out hx3)
  have HB3 := Lib.hid hb3
  have n4 := Sep.alloc Lcl.emp (w := w2.alloc (.cells #[.string (strOfNums nb), .int .u8 K6, .slice A2 pay.length c2] 30)) (S := fun _ => False) (fun _ x => x) #[.string (strOfNums nb), .int .u8 K6, .slice A2 pay.length c2] 30
  have h4 := n4.1.left_of_emp
  rw [hs3] at h4
  have h5 := sepEmpty (Lcl.blk _ _ _) h4 5 .u8
  have h5a := h5.1
  rw [size_al (w2.alloc (.cells #[.string (strOfNums nb), .int .u8 K6, .slice A2 pay.length c2] 30)), hs3] at h5a
  have HE := Lib.hid h5a
  have ST5 := Lib.hid (show Step (fun _ => False) _ (w2.alloc (.cells #[.string (strOfNums nb), .int .u8 K6, .slice A2 pay.length c2] 30)) _ from (by have q := n4.2; rw [hs3] at q; have q2 := q.trans h5.2; rw [size_al (w2.alloc (.cells #[.string (strOfNums nb), .int .u8 K6, .slice A2 pay.length c2] 30)), hs3] at q2; exact q2))
  have HR5 := Lib.hid (Ext.reads (Ext.trans _ _ _ X3.out (Wire.belowF ST5.out)) HR.out)
  clear n4 h4 h5 hx3 hb3 h5a
  go_wp2_with (first
    | (at_builtin; refine append_row _ rfl _ _ 22 rfl 5 .u8 1 Try.underlying22 Crc.info_u8 (by decide) _ [] pay A2 pay.length c2 rfl rfl rfl (Lcl.blk _ _ _) HE.out HR5.out (by simp; omega) ?_; intro A' c' w' S' h' st'; simp only [List.length_nil, Nat.zero_add, List.nil_append] at h' ⊢; have H' := Lib.hid h'; have ST' := Lib.hid (ST5.out.trans st'); clear h' st')
    | (at_builtin; refine append_lit _ 5 rfl _ _ 22 rfl .u8 1 Try.underlying22 Crc.info_u8 (by decide) _ pay [x] 1 1 rfl rfl rfl rfl (Lcl.blk _ _ _) H'.out (by simp; omega) ?_; intro A9 c9 w9 S9 h9 st9; obtain ⟨T9, hT9, _⟩ := h9.comm.left; have d60 : w9.cell? ⟨w2.heap.size + 1, 0, none⟩ = some (.string (strOfNums nb)) := hT9.cell 0; have d61 : w9.cell? ⟨w2.heap.size + 1, 1, none⟩ = some (.int .u8 K6) := hT9.cell 1; have d62 : w9.cell? ⟨w2.heap.size + 1, 2, none⟩ = some (.slice A2 pay.length c2) := hT9.cell 2; have f62 := hT9.free 2; have H9 := Lib.hid h9; have ST9 := Lib.hid (ST'.out.trans st9); have hx9 := Wire.belowF ST9.out; have b5 := (hx9.block _ (heap_lt HB3.out)).trans HB3.out; have hch := chain3 (t := 30) (u := 5) b5 hT9.1 (by omega) (.slice A9 (pay.length + 1) c9) (.string (strOfNums (nb ++ [x]))) #[.int .u8 x]; have e50 := cellOf hch.1.1 0; have e71 := cellOf hch.1.2 0; have f71 := freeOf hch.1.2 0; have u50 := cellOf hch.2.1 0; have u51 := cellOf hch.2.1 1; have u52 := cellOf hch.2.1 2; simp only [List.getElem?_toArray, List.getElem?_cons_zero, List.getElem?_cons_succ] at u50 u51 u52; have HCH := Lib.hid hch.2; have d50 := cellOf b5 0; have d51 := cellOf b5 1; have d52 := cellOf b5 2; simp only [List.getElem?_toArray, List.getElem?_cons_zero, List.getElem?_cons_succ] at e50 e71 d50 d51 d52; clear hch b5; have hxb : IsBytes [x] := (by intro y hy; rw [List.mem_singleton.1 hy]; exact hxr); have hszA : ((w9.setCell ⟨w2.heap.size + 1, 2, none⟩ (.slice A9 (pay.length + 1) c9)).alloc (.cells #[.string (strOfNums nb), .int .u8 K6, .slice A2 pay.length c2] 30)).heap.size = w9.heap.size + 1 := (by rw [size_al, size_set]); have hlit := Row.lit 5 .u8 [x] ((w9.setCell ⟨w2.heap.size + 1, 2, none⟩ (.slice A9 (pay.length + 1) c9)).alloc (.cells #[.string (strOfNums nb), .int .u8 K6, .slice A2 pay.length c2] 30)) (by simp); rw [hszA] at hlit; have hcv : (convert 22 9 (.slice (some ⟨w9.heap.size + 1, 0, none⟩) 1 1)).run Try.prog (((w9.setCell ⟨w2.heap.size + 1, 2, none⟩ (.slice A9 (pay.length + 1) c9)).alloc (.cells #[.string (strOfNums nb), .int .u8 K6, .slice A2 pay.length c2] 30)).alloc (.cells #[.int .u8 x] 5)) = .ok (.string (strOfNums [x])) (((w9.setCell ⟨w2.heap.size + 1, 2, none⟩ (.slice A9 (pay.length + 1) c9)).alloc (.cells #[.string (strOfNums nb), .int .u8 K6, .slice A2 pay.length c2] 30)).alloc (.cells #[.int .u8 x] 5)) := hlit.readsAt.string (P := Try.prog) Try.underlying22 Try.underlying5 Try.underlying9 1; have hsa := Crc.str_app nb [x]; have hz1 := Crc.size_str nb; have hz2 : (strOfNums [x]).size = 1 := Crc.size_str [x]; have XC := Lib.hid (show Ext w (((w9.setCell ⟨w2.heap.size + 1, 2, none⟩ (.slice A9 (pay.length + 1) c9)).alloc (.cells #[.string (strOfNums (nb ++ [x])), .int .u8 K6, .slice A2 pay.length c2] 30)).alloc (.cells #[.int .u8 x] 5)) from ((ext_set (Ext.trans _ _ _ X3.out (Wire.belowF ST9.out)) (by have := X2.out.size; omega) _).alloc (by rw [size_set]; have h1 := X3.out.size; have h2 := (Wire.belowF ST9.out).size; omega) _).alloc (by rw [size_al, size_set]; have h1 := X3.out.size; have h2 := (Wire.belowF ST9.out).size; omega) _); have HPY := Lib.hid (readsAny (Sep.left H9.out).choose_spec.1); clear hlit; clear h9 st9 hT9 hx9))
  have HRY : RowKit.Hid (Reads (((w9.setCell ⟨w2.heap.size + 1, 2, none⟩ (.slice A9 (pay.length + 1) c9)).alloc (.cells #[.string (strOfNums (nb ++ [x])), .int .u8 K6, .slice A2 pay.length c2] 30)).alloc (.cells #[.int .u8 x] 5)) .u8 A9 (pay ++ [x])) := Lib.hid (by
    obtain ⟨Q1, Q2, qr, qb, qd, _⟩ := H9.out
    have hk : Reads (w9.setCell ⟨w2.heap.size + 1, 2, none⟩ (.slice A9 (pay.length + 1) c9)) .u8 A9 (pay ++ [x]) := (readsAny qr).keep ((Keep.refl (fun k => k = w2.heap.size + 1) w9).setCell (p := ⟨w2.heap.size + 1, 2, none⟩) (fun _ => rfl) _) (fun a e h => by
      subst e
      obtain ⟨Ax, cx, ex, _, _, hS⟩ := qr.reads
      injection ex with e1 e2 e3
      exact qd _ (hS a e1.symm) ((qb.2 _).2 h))
    have x1 : Ext (w9.setCell ⟨w2.heap.size + 1, 2, none⟩ (.slice A9 (pay.length + 1) c9)) (((w9.setCell ⟨w2.heap.size + 1, 2, none⟩ (.slice A9 (pay.length + 1) c9)).alloc (.cells #[.string (strOfNums (nb ++ [x])), .int .u8 K6, .slice A2 pay.length c2] 30)).alloc (.cells #[.int .u8 x] 5)) := ((Below.refl _ _).alloc (Nat.le_refl _) _).alloc (by simp) _
    exact Ext.reads x1 hk)
  clear hcv hszA hsa hz1 hz2 H9 ST9 HPY d60 d61 d62 f62 e50 e71 f71 d50 d51 d52 u50 u51 u52 HE ST5 HR5 H' ST' X3 HB3
  generalize hwd : (((w9.setCell ⟨w2.heap.size + 1, 2, none⟩ (.slice A9 (pay.length + 1) c9)).alloc (.cells #[.string (strOfNums (nb ++ [x])), .int .u8 K6, .slice A2 pay.length c2] 30)).alloc (.cells #[.int .u8 x] 5)) = wD at HRY XC HCH ⊢
  generalize w9.heap.size = p7 at HCH ⊢
  clear hwd
  have hck1 : checkF nb.length K6 pay.length = 0 := checkF_ok.2 ⟨by omega, by omega, hK6b, by omega⟩
  have hck2 : checkF nb.length K6 (pay ++ [x]).length = 0 := checkF_ok.2 ⟨by omega, by omega, hK6b, by rw [List.length_append]; simp; omega⟩
  have hck3 : checkF (nb ++ [x]).length K6 pay.length = 0 := checkF_ok.2 ⟨by rw [List.length_append]; omega, by rw [List.length_append]; simp; omega, hK6b, by omega⟩
  have HRD := Lib.hid (Ext.reads XC.out HR.out)
  have hfl1 := frame_len nb K6 pay
  have hfl2 := frame_len nb K6 (pay ++ [x])
  have hfl3 := frame_len (nb ++ [x]) K6 pay
  rw [List.length_append, List.length_singleton] at hfl2 hfl3
  obtain ⟨La, hLa⟩ : ∃ La, nb.length + 10 + (pay.length + 1) + 4 = La := ⟨_, rfl⟩
  obtain ⟨Lb, hLb⟩ : ∃ Lb, nb.length + 1 + 10 + pay.length + 4 = Lb := ⟨_, rfl⟩
  obtain ⟨Lc, hLc⟩ : ∃ Lc, nb.length + 10 + pay.length + 4 = Lc := ⟨_, rfl⟩
  rw [hLa] at hfl2
  rw [hLb] at hfl3
  rw [hLc] at hfl1
  have r1 : ((La : Int) == (Lc : Int) + 1) = true := by simp; omega
  have r2 : ((Lb : Int) == (Lc : Int) + 1) = true := by simp; omega
  have hLc2 : Lc ≤ 1000 := by omega
  have hcp1 := put_c nb pay K6 c2 A2 wD HRD.out HB.out HNS.out (by omega) hck1
  rw [hfl1] at hcp1
  have HP1 := Lib.hid hcp1
  have HP2 : RowKit.Hid (∀ wv, Ext wD wv → Calls Try.prog 16 #[.agg #[.string (strOfNums nb), .int .u8 K6, .slice A9 (pay.length + 1) c9]] wv fun e w' => ∃ A' c', e = .returned (.tuple #[.slice A' La c', .int .i64 0]) ∧ Ext wv w') := Lib.hid (fun wv he => by
    have q := put_c nb (pay ++ [x]) K6 c9 A9 wv (he.reads HRY.out) (fun y hy => (List.mem_append.1 hy).elim (HB.out y) (hxb y)) HNS.out (by rw [List.length_append]; simp; omega) hck2
    rw [hfl2, List.length_append, List.length_singleton] at q
    refine q.mono ?_
    rintro e w' ⟨A', c', h1, _, _, _, h2⟩
    exact ⟨A', c', h1, h2⟩)
  have HP3 : RowKit.Hid (∀ wv, Ext wD wv → Calls Try.prog 16 #[.agg #[.string (strOfNums (nb ++ [x])), .int .u8 K6, .slice A2 pay.length c2]] wv fun e w' => ∃ A' c', e = .returned (.tuple #[.slice A' Lb c', .int .i64 0]) ∧ Ext wv w') := Lib.hid (fun wv he => by
    have q := put_c (nb ++ [x]) pay K6 c2 A2 wv (he.reads HRD.out) HB.out (fun y hy => (List.mem_append.1 hy).elim (HNS.out y) (hxb y)) (by omega) hck3
    rw [hfl3] at q
    refine q.mono ?_
    rintro e w' ⟨A', c', h1, _, _, _, h2⟩
    exact ⟨A', c', h1, h2⟩)
  clear hcp1 hfl1 hfl2 hfl3 hck1 hck2 hck3 hLa hLb
  refine HP1.out.mono ?_
  rintro e w10 ⟨A10, c10, rfl, _, _, _, hx10⟩
  have X10 := Lib.hid hx10
  have q60 : w10.cell? ⟨w2.heap.size + 1, 0, none⟩ = some (.string (strOfNums nb)) := Ext.cell hx10 (cellOf HCH.out.2.1 0)
  have q61 : w10.cell? ⟨w2.heap.size + 1, 1, none⟩ = some (.int .u8 K6) := Ext.cell hx10 (cellOf HCH.out.2.1 1)
  have q62 : w10.cell? ⟨w2.heap.size + 1, 2, none⟩ = some (.slice A9 (pay.length + 1) c9) := Ext.cell hx10 (cellOf HCH.out.2.1 2)
  clear hx10 HP1
  go_wp2_with fail
  refine (HP2.out _ X10.out).mono ?_
  rintro e w11 ⟨A11, c11, rfl, hx11⟩
  have X11 := Lib.hid (Ext.trans _ _ _ X10.out hx11)
  have q70 : w11.cell? ⟨p7, 0, none⟩ = some (.string (strOfNums (nb ++ [x]))) := Ext.cell X11.out (cellOf HCH.out.2.2 0)
  have q71 : w11.cell? ⟨p7, 1, none⟩ = some (.int .u8 K6) := Ext.cell X11.out (cellOf HCH.out.2.2 1)
  have q72 : w11.cell? ⟨p7, 2, none⟩ = some (.slice A2 pay.length c2) := Ext.cell X11.out (cellOf HCH.out.2.2 2)
  clear hx11 HP2 q60 q61 q62
  go_wp2_with fail
  refine (HP3.out _ X11.out).mono ?_
  rintro e w12 ⟨A12, c12, rfl, hx12⟩
  have X12 := Lib.hid (Ext.trans _ _ _ X11.out hx12)
  have q50 : w12.cell? ⟨w2.heap.size, 0, none⟩ = some (.string (strOfNums nb)) := Ext.cell X12.out (cellOf HCH.out.1 0)
  have q51 : w12.cell? ⟨w2.heap.size, 1, none⟩ = some (.int .u8 K6) := Ext.cell X12.out (cellOf HCH.out.1 1)
  have q52 : w12.cell? ⟨w2.heap.size, 2, none⟩ = some (.slice A2 pay.length c2) := Ext.cell X12.out (cellOf HCH.out.1 2)
  clear hx12 HP3 q70 q71 q72
  have hsz := size_c (strOfNums nb) K6 pay.length c2 A2 w12 (by rw [Crc.size_str]; omega) (by omega)
  rw [Crc.size_str, hLc] at hsz
  have HSZ := Lib.hid hsz
  clear hsz hLc
  go_wp2_with fail
  refine HSZ.out.mono ?_
  rintro e w13 ⟨rfl, hx13⟩
  have X13 := Lib.hid (Ext.trans _ _ _ XC.out (Ext.trans _ _ _ X12.out hx13))
  clear hx13
  go_wp2_with fail
  go_ret
  exact ⟨rfl, X13.out⟩
end Go.Proofs.Ytfpeeilenocaoaa.Frame
