/- Frames: what Check, Size and Put tell. -/
import Derived.Test.YtfpeeilenocaoaaCrcAny
import Derived.Test.YtfpeeilenocaoaaWireB
import Derived.Test.YtfpeeilenocaoaaRelyC
import Derived.Deep.QuietTactic
import Derived.Lib.ConvBytes
import Derived.BigQuiet
namespace Go.Proofs.Ytfpeeilenocaoaa.Frame
open Go.RowKit Go.Proofs.Ytfpeeilenocaoaa.Own Go.Proofs.Ytfpeeilenocaoaa.Rely Go.Proofs.Ytfpeeilenocaoaa.Crc
attribute [local go_sem] max_ints min_ints

theorem conv_bytes {xs : List Int} (hb : IsBytes xs) (w : World) : ∃ c w', (convert 9 22 (.string (strOfNums xs))).run Try.prog w = .ok (.slice (some ⟨w.heap.size, 0, none⟩) xs.length c) w' ∧ Reads w' .u8 (some ⟨w.heap.size, 0, none⟩) xs ∧ Ext w w' := by
  have hrun := Lib.run_convert_string_bytes (P := Try.prog) w 9 22 5 (strOfNums xs) Try.underlying9 Try.underlying22 Try.underlying5
  rw [size_str] at hrun
  refine ⟨_, _, hrun, fun i hi => ⟨w.heap.size, 0, rfl, by rw [Lib.bytesWorld_size]; omega, ?_⟩, ⟨?_, ?_, ?_, by rw [Lib.bytesWorld_size]; omega, fun j hj => Lib.bytesWorld_at_old w _ _ j hj⟩⟩
  · rw [Nat.zero_add, Lib.bytesWorld_cell w _ _ i (by rw [size_str]; exact hi)]
    have hx := hb (xs.getD i 0) (by rw [List.getD_eq_getElem?_getD, List.getElem?_eq_getElem hi]; exact List.getElem_mem hi)
    have e1 : (strOfNums xs).data.toList.getD i 0 = UInt8.ofNat (xs.getD i 0).toNat := by simp [strOfNums, List.getD_eq_getElem?_getD, hi]
    have e2 : ((UInt8.ofNat (xs.getD i 0).toNat).toNat : Int) = xs.getD i 0 := by
      rw [UInt8.toNat_ofNat']
      omega
    rw [e1, e2]
  · rfl
  · rfl
  · rfl
theorem readsAny {e : TypeId} {k : IntKind} {A : Option Addr} {n c : Nat} {xs : List Int} {w : World} {S : Nat → Prop} (h : Row e k (.slice A n c) xs w S) : Reads w k A xs := by
  obtain ⟨A2, c2, e2, _, h8, _⟩ := h.reads
  injection e2 with e3
  rw [e3]; exact h8
section
variable {P : Program} {ops : Array Oper} {rest : List Oper} {o : Oper} {a : Act} {Q : Exit → Act → World → Prop}
/-- append, whose run is known. -/
theorem append_known (w : World) (hgd : o.guard = none) (s x : Operand) (t : TypeId) (ho : o.op = .call { callee := .builtin .append, args := #[s, x], argTypes := #[t, t] })
    (v xv v' : Value) (w' : World) (hs : a.eval s = v) (hx : a.eval x = xv) (hrun : (Builtin.append_ #[t, t] o.type #[v, xv]).run P w = .ok v' w') (K : wpList P ops Q rest (a.put o.dst v') w') : wpList P ops Q (o :: rest) a w := by
  refine wpList_plain hgd fun K' hK => ?_
  unfold Oper.wp execOp
  simp only [ho, resolve, invoke, builtin, Sem.run_bind, Sem.run_pure, Result.andThen_ok, List.map_toArray, List.map_cons, List.map_nil, hs, hx, hrun]
  exact hK _ _ K
end
/-- May it be one? -/
def checkF (n k m : Nat) : Int := if n < 1 ∨ 255 < n then 12 else if 6 ≤ k then 5 else if 1048576 < m then 6 else 0
/-- Bytes with their sum. -/
def sumd (xs : List Int) : List Int := xs ++ wd (sum xs).toNat
theorem sumd_len (xs : List Int) : (sumd xs).length = xs.length + 4 := by simp [sumd, wd]
theorem sumd_bytes {xs : List Int} (h : IsBytes xs) : IsBytes (sumd xs) := fun x hx => (List.mem_append.1 hx).elim (h x) (wd_bytes _ x)
/-- A head's bytes; a frame's. -/
def headB (nm : List Int) (k m : Nat) : List Int := [(nm.length : Int)] ++ nm ++ [(k : Int)] ++ wd m
def frameB (nm : List Int) (k : Nat) (pay : List Int) : List Int := sumd (headB nm k pay.length) ++ sumd pay
theorem head_len (nm : List Int) (k m : Nat) : (headB nm k m).length = nm.length + 6 := by simp [headB, wd]
theorem frame_len (nm : List Int) (k : Nat) (pay : List Int) : (frameB nm k pay).length = nm.length + 10 + pay.length + 4 := by
  unfold frameB; rw [List.length_append, sumd_len, sumd_len, head_len]; omega
theorem head_bytes {nm : List Int} (h : IsBytes nm) (hn : nm.length ≤ 255) {k : Nat} (hk : k ≤ 255) (m : Nat) : IsBytes (headB nm k m) := by
  intro x hx
  unfold headB at hx
  rcases List.mem_append.1 hx with hx | hx
  · rcases List.mem_append.1 hx with hx | hx
    · rcases List.mem_append.1 hx with hx | hx
      · rw [List.mem_singleton.1 hx]; omega
      · exact h x hx
    · rw [List.mem_singleton.1 hx]; omega
  · exact wd_bytes m x hx
theorem frame_bytes {nm pay : List Int} (h : IsBytes nm) (hp : IsBytes pay) (hn : nm.length ≤ 255) {k : Nat} (hk : k ≤ 255) : IsBytes (frameB nm k pay) :=
  fun x hx => (List.mem_append.1 hx).elim (sumd_bytes (head_bytes h hn hk _) x) (sumd_bytes hp x)

set_option maxHeartbeats 2000000 in
theorem check_c (s : ByteArray) (k n c : Nat) (A : Option Addr) (w : World) :
    Calls Try.prog 20 #[.agg #[.string s, .int .u8 k, .slice A n c]] w fun e w' => e = .returned (.int .i64 (checkF s.size k n)) ∧ Ext w w' := by
  have hx : Ext w (w.alloc (.cells #[.string s, .int .u8 k, .slice A n c] 30)) := (Below.refl _ _).alloc (Nat.le_refl _) _
  have HX := Lib.hid hx
  clear hx
  by_cases h1 : s.size < 1
  · have hc : checkF s.size k n = 12 := by unfold checkF; rw [if_pos (.inl h1)]
    have d1 : decide (s.size < 1) = true := by simpa using h1
    rw [hc]
    go_enter Try.func20, Try.ntmps20
    go_wp2_with fail
    all_goals (go_ret; exact ⟨rfl, HX.out⟩)
  have d1 : decide (s.size < 1) = false := by simpa using h1
  by_cases h2 : 255 < s.size
  · have hc : checkF s.size k n = 12 := by unfold checkF; rw [if_pos (.inr h2)]
    have d2 : decide (255 < s.size) = true := by simpa using h2
    rw [hc]
    go_enter Try.func20, Try.ntmps20
    go_wp2_with fail
    all_goals (go_ret; exact ⟨rfl, HX.out⟩)
  have d2 : decide (255 < s.size) = false := by simpa using h2
  by_cases h3 : 6 ≤ k
  · have hc : checkF s.size k n = 5 := by unfold checkF; rw [if_neg (fun q => q.elim h1 h2), if_pos h3]
    have d3 : decide (6 ≤ k) = true := by simpa using h3
    rw [hc]
    go_enter Try.func20, Try.ntmps20
    go_wp2_with fail
    all_goals (go_ret; exact ⟨rfl, HX.out⟩)
  have d3 : decide (6 ≤ k) = false := by simpa using h3
  by_cases h4 : 1048576 < n
  · have hc : checkF s.size k n = 6 := by unfold checkF; rw [if_neg (fun q => q.elim h1 h2), if_neg h3, if_pos h4]
    have d4 : decide (1048576 < n) = true := by simpa using h4
    rw [hc]
    go_enter Try.func20, Try.ntmps20
    go_wp2_with fail
    all_goals (go_ret; exact ⟨rfl, HX.out⟩)
  have d4 : decide (1048576 < n) = false := by simpa using h4
  have hc : checkF s.size k n = 0 := by unfold checkF; rw [if_neg (fun q => q.elim h1 h2), if_neg h3, if_neg h4]
  rw [hc]
  go_enter Try.func20, Try.ntmps20
  go_wp2_with fail
  all_goals (go_ret; exact ⟨rfl, HX.out⟩)
set_option maxHeartbeats 2000000 in
theorem size_c (s : ByteArray) (k n c : Nat) (A : Option Addr) (w : World) (hs : s.size ≤ 1000) (hn : n ≤ 10000000) :
    Calls Try.prog 21 #[.agg #[.string s, .int .u8 k, .slice A n c]] w fun e w' => e = .returned (.int .i64 ((s.size + 10 + n + 4 : Nat) : Int)) ∧ Ext w w' := by
  have hx : Ext w (w.alloc (.cells #[.string s, .int .u8 k, .slice A n c] 30)) := (Below.refl _ _).alloc (Nat.le_refl _) _
  have HX := Lib.hid hx
  clear hx
  go_enter Try.func21, Try.ntmps21
  go_wp2_with fail
  go_ret
  exact ⟨by simp, HX.out⟩
set_option maxHeartbeats 2000000 in
theorem put_bad (s : ByteArray) (k n c : Nat) (A : Option Addr) (w : World) (hc : checkF s.size k n ≠ 0) :
    Calls Try.prog 16 #[.agg #[.string s, .int .u8 k, .slice A n c]] w fun e w' => e = .returned (.tuple #[.slice none 0 0, .int .i64 (checkF s.size k n)]) ∧ Ext w w' := by
  have hx : Ext w (w.alloc (.cells #[.string s, .int .u8 k, .slice A n c] 30)) := (Below.refl _ _).alloc (Nat.le_refl _) _
  have HX := Lib.hid hx
  have hd : (checkF s.size k n == 0) = false := by rw [beq_eq_false_iff_ne]; exact hc
  have hd2 : (checkF s.size k n != 0) = true := by simpa using hc
  clear hx
  go_enter Try.func16, Try.ntmps16
  go_wp2_with fail
  refine (check_c s k n c A _).mono ?_
  rintro e w2 ⟨rfl, hx2⟩
  have HX2 := Lib.hid (Ext.trans _ _ _ HX.out hx2)
  clear hx2
  obtain ⟨q, hq⟩ : ∃ q, checkF s.size k n = q := ⟨_, rfl⟩
  have HQ := Lib.hid hq
  rw [hq] at hd hd2 ⊢
  clear hq hc
  go_wp2_with fail
  go_ret2
  exact ⟨by rw [HQ.out]; rfl, HX2.out⟩
set_option maxHeartbeats 8000000 in
set_option maxRecDepth 20000 in
theorem put_c (nm pay : List Int) (k c : Nat) (A : Option Addr) (w : World) (hr : Reads w .u8 A pay) (hb : IsBytes pay) (hn : IsBytes nm) (hpl : pay.length ≤ 100000) (hc : checkF nm.length k pay.length = 0) :
    Calls Try.prog 16 #[.agg #[.string (strOfNums nm), .int .u8 k, .slice A pay.length c]] w fun e w' => ∃ A' c', e = .returned (.tuple #[.slice A' (frameB nm k pay).length c', .int .i64 0]) ∧ Reads w' .u8 A' (frameB nm k pay) ∧ (frameB nm k pay).length ≤ c' ∧ c' ≤ 9223372036854775807 ∧ Ext w w' := by
  have hx : Ext w (w.alloc (.cells #[.string (strOfNums nm), .int .u8 k, .slice A pay.length c] 30)) := (Below.refl _ _).alloc (Nat.le_refl _) _
  have hbk := heap_alloc_new w (.cells #[.string (strOfNums nm), .int .u8 k, .slice A pay.length c] 30)
  have HX := Lib.hid hx
  have HBK := Lib.hid hbk
  have HR := Lib.hid (hx.reads hr)
  have hnl : 1 ≤ nm.length ∧ nm.length ≤ 255 ∧ k < 6 := by
    unfold checkF at hc
    split at hc
    · cases hc
    · split at hc
      · cases hc
      · omega
  have hsz := size_str nm
  clear hx hbk hr
  go_enter Try.func16, Try.ntmps16
  go_wp2_with fail
  refine (check_c (strOfNums nm) k pay.length c A _).mono ?_
  rintro e w2 ⟨rfl, hx2⟩
  rw [hsz, hc]
  have HX2 := Lib.hid (Ext.trans _ _ _ HX.out hx2)
  have HR2 := Lib.hid (hx2.reads HR.out)
  have hb2 := (hx2.block _ (Array.getElem?_eq_some_iff.1 HBK.out).1).trans HBK.out
  have HB2 := Lib.hid hb2
  have k0 : w2.cell? ⟨w.heap.size, 0, none⟩ = some (.string (strOfNums nm)) := Blk.cell (S := fun q => q = w.heap.size) ⟨hb2, fun _ => Iff.rfl⟩ 0
  have k1 : w2.cell? ⟨w.heap.size, 1, none⟩ = some (.int .u8 k) := Blk.cell (S := fun q => q = w.heap.size) ⟨hb2, fun _ => Iff.rfl⟩ 1
  have k2 : w2.cell? ⟨w.heap.size, 2, none⟩ = some (.slice A pay.length c) := Blk.cell (S := fun q => q = w.heap.size) ⟨hb2, fun _ => Iff.rfl⟩ 2
  have hbl : w.heap.size < w2.heap.size := (Array.getElem?_eq_some_iff.1 hb2).1
  clear hx2 hb2 HX HBK HR HB2
  generalize w.heap.size = b at k0 k1 k2 hbl
  have n1 := Wire.new_writer Lcl.emp (w := w2) (S := fun _ => False) (fun _ x => x)
  have H3 := Lib.hid n1.1.left_of_emp
  have ST3 := Lib.hid n1.2
  have hx3 := Wire.belowF n1.2
  have k03 := Ext.cell hx3 k0
  clear n1 hx3
  go_wp2_with fail
  generalize w2.alloc (.cells #[.slice none 0 0] 70) = w3 at H3 ST3 k03 ⊢
  generalize w2.heap.size = q at H3 ST3 ⊢
  refine ((Wire.byte_tri q [] (nm.length : Int) (by decide)) _ _ H3.out).mono ?_
  rintro e w4 ⟨S4, ⟨rfl, h4⟩, st4⟩
  rw [List.nil_append] at h4
  have H4 := Lib.hid h4
  have ST4 := Lib.hid (ST3.out.trans st4)
  have k04 := Ext.cell (Wire.belowF ST4.out) k0
  clear h4 st4 H3 ST3 k03
  obtain ⟨cv, w5, hcv, hrd5, hx5⟩ := conv_bytes hn w4
  have H5 := Lib.hid (Ext.keep (Wire.loc_wr _ _) hx5 H4.out)
  have ST5 := Lib.hid (ST4.out.trans (show Step S4 S4 w4 w5 from ⟨Keep.of_below hx5, fun _ h => .inl h⟩))
  have HR5 := Lib.hid hrd5
  clear hrd5 hx5 H4 ST4
  go_wp2_with fail
  refine (Wire.put_c q [(nm.length : Int)] (some ⟨w4.heap.size, 0, none⟩) cv nm w5 S4 H5.out HR5.out (by simp; omega)).mono ?_
  rintro e w6 ⟨S6, ⟨rfl, h6⟩, st6⟩
  have H6 := Lib.hid h6
  have ST6 := Lib.hid (ST5.out.trans st6)
  have k16 := Ext.cell (Wire.belowF ST6.out) k1
  clear h6 st6 H5 ST5 k04 hcv HR5
  go_wp2_with fail
  refine ((Wire.byte_tri q ([(nm.length : Int)] ++ nm) (k : Int) (by simp; omega)) _ _ H6.out).mono ?_
  rintro e w7 ⟨S7, ⟨rfl, h7⟩, st7⟩
  have H7 := Lib.hid h7
  have ST7 := Lib.hid (ST6.out.trans st7)
  have k27 := Ext.cell (Wire.belowF ST7.out) k2
  clear h7 st7 H6 ST6 k16
  go_wp2_with fail
  refine ((Wire.word_tri q ([(nm.length : Int)] ++ nm ++ [(k : Int)]) pay.length (by simp; omega) (by omega)) _ _ H7.out).mono ?_
  rintro e w8 ⟨S8, ⟨rfl, h8⟩, st8⟩
  have hw4 : Wire.word4 pay.length = wd pay.length := by
    unfold Wire.word4 wd
    simp only [List.cons.injEq, and_true, true_and]
    omega
  rw [hw4] at h8
  have H8 := Lib.hid (show Wire.Wr q (headB nm k pay.length) w8 S8 from h8)
  have ST8 := Lib.hid (ST7.out.trans st8)
  have k28 := Ext.cell (Wire.belowF ST8.out) k2
  have HR8 := Lib.hid (Ext.reads (Wire.belowF ST8.out) HR2.out)
  have HX8 := Lib.hid (Ext.trans _ _ _ HX2.out (Wire.belowF ST8.out))
  clear h8 st8 H7 ST7 k27 hw4 k0 k1 k2 HR2 HX2
  have HHL := Lib.hid (head_len nm k pay.length)
  have HHB := Lib.hid (head_bytes hn hnl.2.1 (show k ≤ 255 by omega) pay.length)
  have HFB : RowKit.Hid (frameB nm k pay = sumd (headB nm k pay.length) ++ sumd pay) := Lib.hid rfl
  generalize headB nm k pay.length = HD at H8 HHL HHB HFB
  go_wp2_with fail
  refine wp_region_next (by kernel_rfl) ?_
  refine next_win 0 6 Ext Ext 999 0 (fun _ _ h => h) Ext.refl Ext.trans Ext.refl Ext.trans [[(5, none)], [(34, some 0)], [(35, some 1)], [(1, none)], [(37, some 3)], [(38, some 4)]] [some 34, some 35, some 36, some 37, some 38, some 39] (by kernel_rfl) (by kernel_rfl) (by kernel_rfl) (by kernel_rfl) ?_
  intro Nx hNx
  apply relyD_const (by decide) (by decide); case h => (intro wr hR a' h5 K hK; go_wp2_with fail; exact Ext.refl _)
  refine relyD_rel (by decide) (by decide) (fun v wr => ∃ A1 c1, v = .slice A1 HD.length c1 ∧ Reads wr .u8 A1 HD) (fun v w w' ⟨A1, c1, e, h⟩ x => ⟨A1, c1, e, x.reads h⟩) ?h1 ?_
  case h1 =>
    intro wr hR a' h34 K hK
    have HK := Lib.hid hK
    clear hK
    go_wp2_with fail
    refine (Wire.wbytes_c q HD (by have := HHL.out; omega) wr _ (Ext.keep (Wire.loc_wr _ _) hR.undrew H8.out)).mono ?_
    rintro e w9 ⟨A1, c1, rfl, hrd, hx9, _⟩
    have HRD := Lib.hid hrd
    have HX9 := Lib.hid hx9
    clear hrd hx9
    go_wp2_with fail
    exact HK.out _ _ HX9.out ⟨A1, c1, rfl, HRD.out⟩
  refine relyD_rel (by decide) (by decide) (fun v wr => ∃ A1 c1 S1, v = .slice A1 (sumd HD).length c1 ∧ Row 5 .u8 (.slice A1 (sumd HD).length c1) (sumd HD) wr S1 ∧ ∀ k, S1 k → w8.heap.size ≤ k) (fun v w w' ⟨A1, c1, S1, e, h, f⟩ x => ⟨A1, c1, S1, e, Ext.keep (Lcl.row _ _ _ _) x h, f⟩) ?h2 ?_
  case h2 =>
    rintro wr hR a' v h35 ⟨A1, c1, rfl, hrd⟩ K hK
    have HK := Lib.hid hK
    have HRD := Lib.hid hrd
    have hwx := hR.undrew.size
    clear hK hrd
    go_wp2_with fail
    refine (Crc.put_calls wr A1 c1 HD HRD.out HHB.out (by have := HHL.out; omega)).mono ?_
    rintro e w9 ⟨A2, c2, S2, rfl, hrow, hst⟩
    rw [← sumd_len] at hrow ⊢
    have HRW := Lib.hid (show Row 5 .u8 (.slice A2 (sumd HD).length c2) (sumd HD) w9 S2 from hrow)
    have HX9 := Lib.hid (show Ext wr w9 from Wire.belowF hst)
    have HF9 := Lib.hid (show ∀ k, S2 k → w8.heap.size ≤ k from fun k hk => by
      rcases hst.fresh k hk with q | q
      · exact absurd q id
      · exact Nat.le_trans hwx q)
    clear hrow hst
    go_wp2_with fail
    exact HK.out _ _ HX9.out ⟨A2, c2, S2, rfl, HRW.out, HF9.out⟩
  apply relyD_const (by decide) (by decide); case h => (intro wr hR a' h1 K hK; go_wp2_with fail; exact Ext.refl _)
  apply relyD_const (by decide) (by decide); case h => (intro wr hR a' h37 K hK; have k9 := hR.undrew.cell k28; go_wp2_with fail; exact Ext.refl _)
  refine relyD_rel (by decide) (by decide) (fun v wr => ∃ A1 c1, v = .slice A1 (sumd pay).length c1 ∧ Reads wr .u8 A1 (sumd pay)) (fun v w w' ⟨A1, c1, e, h⟩ x => ⟨A1, c1, e, x.reads h⟩) ?h5 ?_
  case h5 =>
    intro wr hR a' h38 K hK
    have HK := Lib.hid hK
    clear hK
    go_wp2_with fail
    refine (Crc.put_calls wr A c pay (hR.undrew.reads HR8.out) hb (by omega)).mono ?_
    rintro e w9 ⟨A2, c2, S2, rfl, hrow, hst⟩
    rw [← sumd_len] at hrow ⊢
    have HRW := Lib.hid (show Reads w9 .u8 A2 (sumd pay) from (readsAny hrow))
    have HX9 := Lib.hid (show Ext wr w9 from Wire.belowF hst)
    clear hrow hst
    go_wp2_with fail
    exact HK.out _ _ HX9.out ⟨A2, c2, rfl, HRW.out⟩
  refine relyD_end ?_
  intro wr hR
  simp only [had, List.take_succ_cons, List.take_zero, List.map_cons, List.map_nil, List.cons_append, List.nil_append, ends, Act.put, List.setIfInBounds_toArray, List.set_cons_zero, List.set_cons_succ]
  rintro v1 _ v2 ⟨A1, c1, S1, rfl, hrow, hf⟩ v3 ⟨A2, c2, rfl, hrd⟩
  refine hNx _ _ ?_
  have hlen : ((sumd HD).length + (sumd pay).length) * 1 ≤ 140737488355328 := by
    have := HHL.out
    rw [sumd_len, sumd_len]; omega
  obtain ⟨v0, w1, S9, hrun, hrow9, hst9⟩ := run_append (P := Try.prog) wr 22 22 5 .u8 1 Try.underlying22 Crc.info_u8 (by decide) (.slice A1 (sumd HD).length c1) (sumd HD) (sumd pay) S1 A2 c2 hrow hrd hlen
  rw [← HFB.out] at hrow9
  obtain ⟨A9, c9, rfl, hcap9⟩ := hrow9.shape
  have HCAP := Lib.hid (show (frameB nm k pay).length ≤ c9 ∧ c9 ≤ 9223372036854775807 from hcap9)
  clear hcap9
  have HRD9 := Lib.hid (readsAny hrow9)
  have hxr : Ext w wr := Ext.trans _ _ _ HX8.out hR.undrew
  have hkx : Ext w w1 := Below.trans hxr (hst9.keep.below hxr.size (fun k hk hs => by have := hf k hs; have := HX8.out.size; omega))
  have HKX := Lib.hid hkx
  have HRUN := Lib.hid hrun
  clear hkx hxr hst9 hrow9 hrow hrd hf hR hrun k28 H8 HR8 HX8 ST8
  refine next_win 6 9 (fun a b => a = b) (fun a b => a = b ∨ (a = wr ∧ b = w1)) 6 63 (fun _ _ h => .inl h) (fun _ => rfl) (fun _ _ _ h k => h.trans k) (fun _ => .inl rfl) (fun x y z h k => by
    rcases h with rfl | ⟨h1, h2⟩
    · exact k
    · rcases k with rfl | ⟨_, k2⟩
      · exact .inr ⟨h1, h2⟩
      · exact .inr ⟨h1, k2⟩) [[(36, none), (39, none)], [(40, some 6)], []] [none, none, none, none, none, none, some 40, some 2, some 3] (by kernel_rfl) (by kernel_rfl) (by kernel_rfl) (by kernel_rfl) ?_
  intro Ny hNy
  refine relyD_the rfl (fun v w => v = .slice A9 (frameB nm k pay).length c9 ∧ w = w1) (fun v w w' h r => ⟨h.1, by
    rcases r with rfl | ⟨_, r2⟩
    · exact h.2
    · exact r2⟩) ?h6 ?_
  case h6 =>
    rintro w' rfl a' h36 h39 K hK
    refine append_known wr rfl _ _ 22 rfl (.slice A1 (sumd HD).length c1) (.slice A2 (sumd pay).length c2) (.slice A9 (frameB nm k pay).length c9) w1 ?_ ?_ HRUN.out ?_
    · exact h36
    · exact h39
    · have HK := hK (.slice A9 (frameB nm k pay).length c9) w1 (.inr ⟨rfl, rfl⟩) ⟨rfl, rfl⟩
      go_wp2_with fail
      exact HK
  apply relyD_const (by decide) (by decide); case h => (rintro w' hw' a' v h40 ⟨rfl, rfl⟩ K hK; go_wp2_with fail; rfl)
  apply relyD_const (by decide) (by decide); case h => (intro w' hw' a' K hK; go_wp2_with fail; rfl)
  refine relyD_end ?_
  intro wz hR
  simp only [had, List.take_succ_cons, List.take_zero, List.map_cons, List.map_nil, List.cons_append, List.nil_append, ends, Act.put, List.setIfInBounds_toArray, List.set_cons_zero, List.set_cons_succ]
  rintro v9 ⟨rfl, rfl⟩
  refine hNy _ _ ?_
  refine next_done rfl ?_
  try simp only [Act.put, List.setIfInBounds_toArray, List.set_cons_zero, List.set_cons_succ]
  go_wp2_with fail
  go_ret2
  exact ⟨A9, c9, rfl, HRD9.out, HCAP.out.1, HCAP.out.2, HKX.out⟩
end Go.Proofs.Ytfpeeilenocaoaa.Frame
