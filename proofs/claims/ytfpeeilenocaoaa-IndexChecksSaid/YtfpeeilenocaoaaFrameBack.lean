/- P20.1: frames as bytes, and back: at every input, without conditions. -/
import Derived.Test.YtfpeeilenocaoaaFrameP
import Derived.Test.YtfpeeilenocaoaaFrameR
import Derived.Lib.AppendStr
namespace Go.Proofs.Ytfpeeilenocaoaa.Frame
open Go.RowKit Go.Proofs.Ytfpeeilenocaoaa.Own Go.Proofs.Ytfpeeilenocaoaa.Rely Go.Proofs.Ytfpeeilenocaoaa.Crc Go.Lib
attribute [local go_sem] max_ints min_ints

theorem row_by_block {e : TypeId} {k : IntKind} {v : Value} {xs : List Int} {w w' : World} {g : Nat} (h : Row e k v xs w (fun b => b = g)) (he : w'.heap[g]? = w.heap[g]?) : Row e k v xs w' (fun b => b = g) :=
  (Lcl.row _ _ _ _).keep h (fun q hq => by subst hq; exact he)
theorem row_base {e : TypeId} {k : IntKind} {v : Value} {xs : List Int} {w : World} {S : Nat → Prop} (h : Row e k v xs w S) {B : Nat} (hB : ∀ b, S b → B ≤ b) : w.ownsRow B e 1 v xs.length (xs.map (Value.int k)) := by
  refine ⟨h.1.1, ?_⟩
  rcases h.1.2 with q | ⟨g, cap, cur, rfl, _, q⟩
  · exact .inl q
  · exact .inr ⟨g, cap, cur, rfl, hB g ((h.2 g).2 rfl), q⟩
section
variable {P : Program}
/-- append(row, string..): its run. -/
theorem run_append_str (w : World) (t u ty e : TypeId) (ht : P.underlying t = some (.slice e)) (hu : P.underlying u = some .string) (hinfo : (P.info? e).map (fun i => (i.zero, i.size, i.bytes)) = some (some (.int .u8 0), 1, 1))
    (v : Value) (xs ys : List Int) (S : Nat → Prop) (h : Row e .u8 v xs w S) (hb : IsBytes ys) (hl : xs.length + ys.length ≤ 140737488355328) {B : Nat} (hB : ∀ b, S b → B ≤ b) (hBw : B ≤ w.heap.size) :
    ∃ A' c' w' S', (Builtin.append_ #[t, u] ty #[v, .string (strOfNums ys)]).run P w = .ok (.slice A' (xs.length + ys.length) c') w' ∧ Row e .u8 (.slice A' (xs.length + ys.length) c') (xs ++ ys) w' S' ∧ (∀ b, S' b → B ≤ b) ∧ Keep S w w' := by
  obtain ⟨i0, hi, hzz⟩ := Option.map_eq_some_iff.1 hinfo
  simp only [Prod.mk.injEq] at hzz
  obtain ⟨hz0, hz1, hz2⟩ := hzz
  have hsz := Crc.size_str ys
  have hcs : strCells (strOfNums ys) = ys.map (Value.int .u8) := by
    unfold strCells strOfNums
    simp only [List.map_map]
    apply List.map_congr_left
    intro x hx
    have := hb x hx
    simp only [Function.comp, UInt8.toNat_ofNat']
    congr 1
    omega
  obtain ⟨v', w', hrun, hrow, hgr, _⟩ := run_append_own_string (P := P) w B t u ty e i0 ht hu hi hz0 hz1 hz2 v xs.length (xs.map (Value.int .u8)) (row_base h hB) (strOfNums ys) (by rw [hsz]; simp only [maxLen]; omega) (by rw [hsz]; omega) hBw
  rw [hsz, hcs, ← List.map_append] at hrow
  have hrow2 : Row e .u8 v' (xs ++ ys) w' (fun b => v'.ownBlock = some b) := by
    refine ⟨?_, fun _ => Iff.rfl⟩
    rw [List.length_append]
    refine ⟨hrow.1, ?_⟩
    rcases hrow.2 with q | ⟨g, cap, cur, q0, _, q⟩
    · exact .inl q
    · exact .inr ⟨g, cap, cur, q0, Nat.zero_le _, q⟩
  obtain ⟨A', c', rfl, _⟩ := hrow2.shape
  rw [List.length_append] at hrow2 hrun hrow
  refine ⟨A', c', w', _, hrun, hrow2, fun b hb' => ?_, (Keep.refl S w).grown hgr (fun q hq _ => (h.2 q).2 hq)⟩
  rcases hrow.2 with ⟨q, _⟩ | ⟨g, cap, cur, q0, hBg, _⟩
  · rw [q] at hb'; simp [Value.ownBlock] at hb'
  · rw [q0] at hb'
    simp [Value.ownBlock] at hb'
    omega
/-- append: either in the same block, with the same room; or in a new one. -/
theorem run_append_two (w : World) (t ty e : TypeId) (k : IntKind) (bytes : Nat) (ht : P.underlying t = some (.slice e)) (hinfo : (P.info? e).map (fun i => (i.zero, i.size, i.bytes)) = some (some (.int k 0), 1, bytes)) (hb0 : 0 < bytes)
    (g n c : Nat) (xs ys : List Int) (S : Nat → Prop) (A : Option Addr) (c2 : Nat) (h : Row e k (.slice (some ⟨g, 0, none⟩) n c) xs w S) (hr : Reads w k A ys) (hy : 0 < ys.length) (hl : (xs.length + ys.length) * bytes ≤ 140737488355328) :
    ∃ v' w', (Builtin.append_ #[t, t] ty #[.slice (some ⟨g, 0, none⟩) n c, .slice A ys.length c2]).run P w = .ok v' w' ∧
      ((v' = .slice (some ⟨g, 0, none⟩) (n + ys.length) c ∧ Row e k v' (xs ++ ys) w' (fun b => b = g) ∧ Keep (fun b => b = g) w w') ∨
       (Ext w w' ∧ ∃ c', v' = .slice (some ⟨w.heap.size, 0, none⟩) (n + ys.length) c' ∧ Row e k v' (xs ++ ys) w' (fun b => b = w.heap.size))) := by
  obtain ⟨v', w', S', hrun, hrow, hst⟩ := run_append (P := P) w t ty e k bytes ht hinfo hb0 (.slice (some ⟨g, 0, none⟩) n c) xs ys S A c2 h hr hl
  obtain ⟨i0, hi, hzz⟩ := Option.map_eq_some_iff.1 hinfo
  simp only [Prod.mk.injEq] at hzz
  obtain ⟨hz0, hz1, hz2⟩ := hzz
  have hlen : xs.length + ys.length ≤ 140737488355328 := Nat.le_trans (Nat.le_mul_of_pos_right _ hb0) hl
  refine ⟨v', w', hrun, ?_⟩
  obtain ⟨b, o, rfl, _, _⟩ := hr 0 hy
  have hcells : ∀ j u, (ys.map (Value.int k))[j]? = some u → w.cell? ((⟨b, o, none⟩ : Addr).add j) = some u := by
    intro j u hu
    have hj : j < ys.length := by
      rcases Nat.lt_or_ge j ys.length with h | h
      · exact h
      · simp [List.getElem?_eq_none h] at hu
    obtain ⟨b', o', q, _, hc⟩ := hr j hj
    injection q with q
    injection q with q1 q2 q3
    subst q1 q2
    rw [add_lit', hc]
    simp [List.getElem?_eq_getElem hj] at hu
    rw [← hu]
    simp [List.getD_eq_getElem?_getD, List.getElem?_eq_getElem hj]
  have hSg : ∀ q, S q ↔ q = g := fun q => by
    rw [h.2 q]
    simp [Value.ownBlock, eq_comm]
  rcases h.1.2 with ⟨q, _⟩ | ⟨g2, cap, cur, q0, _, hg, hnc, hcm, hcs, htake⟩
  · cases q
  injection q0 with q1 q2 q3
  injection q1 with q1
  injection q1 with q1 _ _
  subst q1 q3
  have hn : n = xs.length := q2
  have hcs' : cur.size = c := by simpa using hcs
  by_cases hroom : n + ys.length ≤ c
  · left
    have hr2 := run_append_room (P := P) w t ty e i0 ht hi g n c cur hg ⟨b, o, none⟩ ys.length c2 (ys.map (Value.int k)) (by rw [hz1]; simp) hcells (by intro u hu; simp only [List.mem_map] at hu; obtain ⟨q, _, rfl⟩ := hu; rfl) hroom (by rw [hz1]; simp; omega)
    rw [hr2] at hrun
    injection hrun with e1 e2
    subst e1
    have hS' : S' = fun b => b = g := funext fun q => propext (by rw [hrow.2 q]; simp [Value.ownBlock, eq_comm])
    rw [hS'] at hrow
    refine ⟨rfl, hrow, ?_⟩
    exact hst.keep.mono (fun q _ hq => (hSg q).1 hq)
  · right
    have hr2 := run_append_grow (P := P) w t ty e i0 (.int k 0) ht hi hz0 ⟨g, 0, none⟩ n c (xs.map (Value.int k)) (by rw [hz1]; simp [hn]) (h.1.cells (g := g) rfl) ⟨b, o, none⟩ ys.length c2 (ys.map (Value.int k)) (by rw [hz1]; simp) hcells (by omega) (by omega) (by rw [hz2]; exact growslice_fits (by omega) (by rw [hn]; omega))
    rw [hr2] at hrun
    injection hrun with e1 e2
    subst e1
    have hS' : S' = fun b => b = w.heap.size := funext fun q => propext (by rw [hrow.2 q]; simp [Value.ownBlock, eq_comm])
    rw [hS'] at hrow
    refine ⟨?_, _, rfl, hrow⟩
    rw [← e2]
    exact ⟨rfl, rfl, rfl, by simp, fun j hj => heap_alloc_old w.drew _ hj⟩
variable {ops : Array Oper} {rest : List Oper} {o : Oper} {a : Act} {Q : Exit → Act → World → Prop}
/-- A slice of one part: its run is known. -/
theorem build_known (w : World) (hgd : o.guard = none) (t : TypeId) (n : Nat) (x : Operand) (ho : o.op = .buildSlice t n #[(0, x)])
    (v v' : Value) (w' : World) (hx : a.eval x = v) (hrun : (Instr.buildSlice t n #[(0, v)]).run P w = .ok v' w') (K : wpList P ops Q rest (a.put o.dst v') w') : wpList P ops Q (o :: rest) a w := by
  refine wpList_plain hgd fun K' hK => ?_
  unfold Oper.wp execOp
  simp only [ho, Sem.run_bind, Sem.run_pure, Result.andThen_ok, List.map_toArray, List.map_cons, List.map_nil, hx, hrun]
  exact hK _ _ K
/-- append of another type, whose run is known. -/
theorem append_known2 (w : World) (hgd : o.guard = none) (s x : Operand) (t u : TypeId) (ho : o.op = .call { callee := .builtin .append, args := #[s, x], argTypes := #[t, u] })
    (v xv v' : Value) (w' : World) (hs : a.eval s = v) (hx : a.eval x = xv) (hrun : (Builtin.append_ #[t, u] o.type #[v, xv]).run P w = .ok v' w') (K : wpList P ops Q rest (a.put o.dst v') w') : wpList P ops Q (o :: rest) a w := by
  refine wpList_plain hgd fun K' hK => ?_
  unfold Oper.wp execOp
  simp only [ho, resolve, invoke, builtin, Sem.run_bind, Sem.run_pure, Result.andThen_ok, List.map_toArray, List.map_cons, List.map_nil, hs, hx, hrun]
  exact hK _ _ K
end
set_option maxHeartbeats 16000000 in
set_option maxRecDepth 20000 in
theorem back_wf (A1 : Option Addr) (c1 : Nat) (nm : List Int) (k : Int) (A2 : Option Addr) (c2 : Nat) (pay : List Int) (w : World) (h1 : ArgI w .u8 A1 c1 nm) (h2 : (Lit.int .u8 k).wf = true) (h3 : ArgI w .u8 A2 c2 pay) :
    Calls Try.prog 7 #[.agg #[.slice A1 nm.length c1, .int .u8 k, .slice A2 pay.length c2]] w fun e w' => e = .returned (.bool true) ∧ Below w.heap.size w w' := by
  have hkr := wf_u8 h2
  obtain ⟨kn, rfl⟩ : ∃ kn : Nat, k = (kn : Int) := ⟨k.toNat, by omega⟩
  have HR := Lib.hid h3.reads
  have HN := Lib.hid h1.reads
  have HB := Lib.hid (show IsBytes pay from fun x hx => wf_u8 (h3.rng x hx))
  have HNB := Lib.hid (show IsBytes nm from fun x hx => wf_u8 (h1.rng x hx))
  have hx1 : Ext w (w.alloc (.cells #[.slice A1 nm.length c1, .int .u8 kn, .slice A2 pay.length c2] 24)) := (Below.refl _ _).alloc (Nat.le_refl _) _
  have hbk := heap_alloc_new w (.cells #[.slice A1 nm.length c1, .int .u8 kn, .slice A2 pay.length c2] 24)
  have HX1 := Lib.hid hx1
  have HBK := Lib.hid hbk
  clear h1 h2 h3 hx1 hbk
  go_enter Try.func7, Try.ntmps7
  go_wp2_with fail
  refine (awake20 _).mono ?_
  rintro e w1 ⟨rfl, hx1⟩
  have X1 := Lib.hid (Ext.trans _ _ _ HX1.out hx1)
  have HB1 := Lib.hid ((hx1.block _ (Array.getElem?_eq_some_iff.1 HBK.out).1).trans HBK.out)
  have k0 : w1.cell? ⟨w.heap.size, 0, none⟩ = some (.slice A1 nm.length c1) := Blk.cell (S := fun q => q = w.heap.size) ⟨HB1.out, fun _ => Iff.rfl⟩ 0
  have k1 : w1.cell? ⟨w.heap.size, 1, none⟩ = some (.int .u8 kn) := Blk.cell (S := fun q => q = w.heap.size) ⟨HB1.out, fun _ => Iff.rfl⟩ 1
  have k2 : w1.cell? ⟨w.heap.size, 2, none⟩ = some (.slice A2 pay.length c2) := Blk.cell (S := fun q => q = w.heap.size) ⟨HB1.out, fun _ => Iff.rfl⟩ 2
  clear hx1 HX1 HBK HB1
  by_cases hl : 300 < nm.length
  · have g1 : decide ((300 : Int) < (nm.length : Int)) = true := by simp; omega
    go_wp2_with fail
    go_ret
    exact ⟨rfl, X1.out⟩
  have g1 : decide ((300 : Int) < (nm.length : Int)) = false := by simp; omega
  by_cases hlp : 200 < pay.length
  · have g2 : decide ((200 : Int) < (pay.length : Int)) = true := by simp; omega
    go_wp2_with fail
    go_ret
    exact ⟨rfl, X1.out⟩
  have g2 : decide ((200 : Int) < (pay.length : Int)) = false := by simp; omega
  have HN1 := Lib.hid (Ext.reads X1.out HN.out)
  go_wp2_with fail
  refine (small_c A1 A2 c1 c2 pay.length nm kn w1 HN1.out (by omega) (by omega)).mono ?_
  rintro e w2 ⟨rfl, hx2⟩
  have X2 := Lib.hid (Ext.trans _ _ _ X1.out hx2)
  have hnl := nameS_len nm
  have HNS := Lib.hid (nameS_bytes HNB.out)
  obtain ⟨K6, hK6, hK6b⟩ : ∃ K6, kn % 6 = K6 ∧ K6 < 6 := ⟨_, rfl, Nat.mod_lt _ (by omega)⟩
  rw [hK6]
  clear hx2 k0 k1 k2 hK6 hkr g1 g2 HN1 X1
  generalize nameS nm = nb at hnl HNS
  have hnb1 : 1 ≤ nb.length := hnl.1
  have hnb2 : nb.length ≤ 255 := hnl.2.1
  clear hnl hl HNB HN
  obtain ⟨nl, hnl⟩ : ∃ nl, nb.length = nl := ⟨_, rfl⟩
  have HNL := Lib.hid hnl
  have hszn : (strOfNums nb).size = nl := by rw [Crc.size_str]; exact hnl
  rw [hnl] at hnb1 hnb2
  have hw8 : (nl : Int) % 256 = (nl : Int) := by omega
  have hx3 : Ext w2 (w2.alloc (.cells #[.string (strOfNums nb), .int .u8 K6, .slice A2 pay.length c2] 30)) := (Below.refl _ _).alloc (Nat.le_refl _) _
  have hb3 := heap_alloc_new w2 (.cells #[.string (strOfNums nb), .int .u8 K6, .slice A2 pay.length c2] 30)
  have f0 := Blk.cell (S := fun q => q = w2.heap.size) ⟨hb3, fun _ => Iff.rfl⟩ 0
  have f1 := Blk.cell (S := fun q => q = w2.heap.size) ⟨hb3, fun _ => Iff.rfl⟩ 1
  have f2 := Blk.cell (S := fun q => q = w2.heap.size) ⟨hb3, fun _ => Iff.rfl⟩ 2
  simp only [List.getElem?_toArray, List.getElem?_cons_zero, List.getElem?_cons_succ] at f0 f1 f2
  have X3 := Lib.hid (Ext.trans _ _ _ X2.out hx3)
  have hpf : w2.heap.size < (w2.alloc (.cells #[.string (strOfNums nb), .int .u8 K6, .slice A2 pay.length c2] 30)).heap.size := by simp
  clear hnl hx3 hb3 X2
  obtain ⟨w3, hw3⟩ : ∃ w3, w2.alloc (.cells #[.string (strOfNums nb), .int .u8 K6, .slice A2 pay.length c2] 30) = w3 := ⟨_, rfl⟩
  have hw3s : w3.heap.size = w2.heap.size + 1 := by rw [← hw3]; simp
  rw [hw3] at f0 f1 f2 X3 hpf
  have hx4 : Ext w3 (w3.alloc (.cells #[.int .u8 nl] 5)) := (Below.refl _ _).alloc (Nat.le_refl _) _
  have hrow0 := Row.lit 5 .u8 [(nl : Int)] w3 (by simp)
  obtain ⟨A5, c5, w5, S5, hrun5, hrow5, hS5, hk5⟩ := run_append_str (P := Try.prog) _ 22 9 22 5 Try.underlying22 Try.underlying9 Crc.info_u8 _ [(nl : Int)] nb _ hrow0 HNS.out (by rw [HNL.out]; simp; omega) (B := w3.heap.size) (fun b hb => Nat.le_of_eq hb.symm) hx4.size
  obtain ⟨g, cap, eg, hSg, _⟩ := hrow5.form (by simp)
  injection eg with q1 q2 q3
  subst q1
  rw [HNL.out] at hrun5 hrow5
  simp only [List.length_singleton] at hrun5 hrow5
  have hg : w3.heap.size ≤ g := hS5 g ((hSg g).2 rfl)
  have hS5e : S5 = fun b => b = g := funext fun q => propext (hSg q)
  rw [hS5e] at hrow5
  have hx5 : Ext w3 w5 := Below.trans hx4 (hk5.below hx4.size (fun k hk hs => by have h1 : k = w3.heap.size := hs; omega))
  replace hrun5 : (Builtin.append_ #[22, 9] 22 #[.slice (some ⟨w3.heap.size, 0, none⟩) 1 1, .string (strOfNums nb)]).run Try.prog (w3.alloc (.cells #[.int .u8 nl] 5)) = .ok (.slice (some ⟨g, 0, none⟩) (1 + nl) c5) w5 := hrun5
  have HROW5 := Lib.hid hrow5
  have X5 := Lib.hid (Ext.trans _ _ _ X3.out hx5)
  have e0 := hx5.cell f0
  have e1 := hx5.cell f1
  have e2 := hx5.cell f2
  have HR5 := Lib.hid (Ext.reads X5.out HR.out)
  have f04 := hx4.cell f0
  have hpg : w2.heap.size < g := by omega
  have hw3g : w.heap.size ≤ g := Nat.le_trans X3.out.size hg
  rw [hw3s] at hrun5
  have HRUN5 := Lib.hid hrun5
  clear hrun5 hrow5 hS5 hSg hS5e hk5 hrow0 hx4 f1 f2 q2 q3 hx5
  go_wp2_with (at_builtin; refine append_known2 _ rfl _ _ 22 9 rfl (.slice (some ⟨w2.heap.size + 1, 0, none⟩) 1 1) (.string (strOfNums nb)) _ _ rfl rfl HRUN5.out ?_)
  clear HRUN5 f0 f04 X3 hg hw3 hpf hw3s
  generalize w2.heap.size = pf at e0 e1 e2 hpg ⊢
  obtain ⟨F, hF⟩ : ∃ F : Option Obj → Prop, ∀ o, F o ↔ ∀ w'' : World, w''.heap[g]? = o → Row 5 .u8 (.slice (some ⟨g, 0, none⟩) (1 + nl + 1) c5) ([(nl : Int)] ++ nb ++ [(K6 : Int)]) w'' (fun b => b = g) := ⟨_, fun _ => Iff.rfl⟩
  have HF := Lib.hid hF
  clear hF
  have hpg2 : pf ≠ g := by omega
  go_wp2_with fail
  refine wp_region_next (by kernel_rfl) ?_
  refine next_win 0 9 Ext (RB g F) 4 15 RB.ext Ext.refl Ext.trans (RB.refl _ _) (RB.trans _ _) [[(4, none)], [(3, none)], [(32, some 1)], [(33, some 2)], [(31, some 0), (34, some 3)], [(3, none)], [(36, some 5)], [(37, some 6)], [(38, some 7)]] [some 31, some 32, some 33, some 34, some 35, some 36, some 37, some 38, some 39] (by kernel_rfl) (by kernel_rfl) (by kernel_rfl) (by kernel_rfl) ?_
  intro Nx hNx
  apply relyD_const_e (by decide) (by decide); case h => (intro wr hR a' h4 K hK; go_wp2_with fail; exact Ext.refl _)
  apply relyD_const_e (by decide) (by decide); case h => (intro wr hR a' h3 K hK; go_wp2_with fail; exact Ext.refl _)
  apply relyD_const_e (by decide) (by decide); case h => (intro wr hR a' h32 K hK; have k9 := hR.undrew.cell e1; go_wp2_with fail; exact Ext.refl _)
  refine relyD_rel_e (by decide) (by decide) (fun v w => ∃ p, v = .slice (some ⟨p, 0, none⟩) 1 1 ∧ Reads w .u8 (some ⟨p, 0, none⟩) [(K6 : Int)] ∧ g < p) (fun v w w' ⟨p, e, h, hp⟩ x => ⟨p, e, h.keep x.keep (fun a ha => by injection ha with ha; subst ha; show ¬ p = g; omega), hp⟩) ?h3 ?_
  case h3 =>
    intro wr hR a' h33 K hK
    have hgw : g < wr.heap.size := Nat.lt_of_lt_of_le ((Lcl.row _ _ _ _).lt HROW5.out rfl) hR.undrew.size
    have hrl := (Row.lit 5 .u8 [(K6 : Int)] wr (by simp)).readsAt
    have HK := Lib.hid (hK _ _ ((Below.refl _ _).alloc (Nat.le_refl _) _) ⟨wr.heap.size, rfl, hrl, hgw⟩)
    clear hK hrl
    refine build_known wr rfl _ _ _ rfl (.int .u8 K6) (.slice (some ⟨wr.heap.size, 0, none⟩) 1 1) (wr.alloc (.cells #[.int .u8 K6] 5)) h33 ?_ ?_
    · exact (by simp [Instr.buildSlice, go_sem])
    · go_wp2_with fail
      exact HK.out
  refine relyD_the rfl (fun v w => (v = .slice (some ⟨g, 0, none⟩) (1 + nl + 1) c5 ∧ g < w.heap.size ∧ F w.heap[g]?) ∨ ∃ g' c', v = .slice (some ⟨g', 0, none⟩) (1 + nl + 1) c' ∧ g < g' ∧ Row 5 .u8 (.slice (some ⟨g', 0, none⟩) (1 + nl + 1) c') ([(nl : Int)] ++ nb ++ [(K6 : Int)]) w (fun b => b = g')) (fun v w w' h x => by
    rcases h with ⟨h1, h2, h3⟩ | ⟨g', c', h1, h2, h3⟩
    · exact .inl ⟨h1, Nat.lt_of_lt_of_le h2 x.size, x.stays h2 h3⟩
    · exact .inr ⟨g', c', h1, h2, (Lcl.row _ _ _ _).stay h3 x.keep (fun y hy hz => by have hy' : y = g' := hy; have hz' : y = g := hz; omega)⟩) ?h4 ?_
  case h4 =>
    rintro wr hR a' h31 v h34 ⟨p, rfl, hrd, hp⟩ K hK
    have hrw := Ext.keep (Lcl.row _ _ _ _) hR.undrew HROW5.out
    have hln := HNL.out
    have hgw : g < wr.heap.size := (Lcl.row _ _ _ _).lt hrw rfl
    obtain ⟨v', w', hrun, hcase⟩ := run_append_two (P := Try.prog) wr 22 22 5 .u8 1 Try.underlying22 Crc.info_u8 (by decide) g (1 + nl) c5 ([(nl : Int)] ++ nb) [(K6 : Int)] _ (some ⟨p, 0, none⟩) 1 hrw hrd (by simp) (by simp [hln]; omega)
    refine append_known wr rfl _ _ 22 rfl _ _ v' w' h31 h34 hrun ?_
    have HK := Lib.hid (hK v' w' (by
      rcases hcase with ⟨h1, h2, h3⟩ | ⟨h1, _⟩
      · subst h1
        exact ⟨h3.os, h3.tape, h3.output, h3.size, h3.block, fun _ => .inr ((HF.out _).2 (fun w'' he => row_by_block h2 he))⟩
      · exact RB.ext _ _ h1) (by
      rcases hcase with ⟨h1, h2, h3⟩ | ⟨h1, c', h2, h3⟩
      · subst h1
        exact .inl ⟨rfl, Nat.lt_of_lt_of_le hgw h3.size, (HF.out _).2 (fun w'' he => row_by_block h2 he)⟩
      · subst h2
        exact .inr ⟨_, c', rfl, hgw, h3⟩))
    clear hK hcase hrun hrw hrd
    go_wp2_with fail
    exact HK.out
  apply relyD_const (by decide) (by decide); case h => (intro wr hR a' h3 K hK; go_wp2_with fail; exact Ext.refl _)
  apply relyD_const (by decide) (by decide); case h => (intro wr hR a' h36 K hK; have k9 := hR.undrew.cell e2 hpg2; go_wp2_with fail; exact Ext.refl _)
  apply relyD_const (by decide) (by decide); case h => (intro wr hR a' h37 K hK; go_wp2_with fail; exact Ext.refl _)
  apply relyD_const (by decide) (by decide); case h => (intro wr hR a' h38 K hK; go_wp2_with fail; exact Ext.refl _)
  refine relyD_end ?_
  intro wr hR
  simp only [had, List.take_succ_cons, List.take_zero, List.map_cons, List.map_nil, List.cons_append, List.nil_append, ends, Act.put, List.setIfInBounds_toArray, List.set_cons_zero, List.set_cons_succ]
  rintro v34 - v35 h35
  refine hNx _ _ ?_
  have hRB := hR.undrew
  obtain ⟨g3, c3, rfl, hg3, hrow3⟩ : ∃ g3 c3, v35 = .slice (some ⟨g3, 0, none⟩) (1 + nl + 1) c3 ∧ g ≤ g3 ∧ Row 5 .u8 (.slice (some ⟨g3, 0, none⟩) (1 + nl + 1) c3) ([(nl : Int)] ++ nb ++ [(K6 : Int)]) wr (fun b => b = g3) := by
    rcases h35 with ⟨h1, h2, h3⟩ | ⟨g', c', h1, h2, h3⟩
    · exact ⟨g, c5, h1, Nat.le_refl _, (HF.out _).1 h3 wr rfl⟩
    · exact ⟨g', c', h1, by omega, h3⟩
  have X7 := Lib.hid (show Ext w wr from Below.trans X5.out (hRB.keep.below X5.out.size (fun k hk hs => by have h1 : k = g := hs; omega)))
  have j0 := hRB.cell e0 hpg2
  have j1 := hRB.cell e1 hpg2
  have j2 := hRB.cell e2 hpg2
  have HROW7 := Lib.hid hrow3
  clear h35 hRB hR hrow3 e0 e1 e2 X5 HROW5 HF HR5
  refine next_win 9 10 Ext Ext 999 0 (fun _ _ h => h) Ext.refl Ext.trans Ext.refl Ext.trans [[(39, none)]] [none, none, none, none, none, none, none, none, none, some 40] (by kernel_rfl) (by kernel_rfl) (by kernel_rfl) (by kernel_rfl) ?_
  intro Ny hNy
  refine relyD_rel (by decide) (by decide) (fun v w => ∃ p, v = .slice (some ⟨p, 0, none⟩) 4 4 ∧ Reads w .u8 (some ⟨p, 0, none⟩) (wd pay.length)) (fun v w w' ⟨p, e, h⟩ x => ⟨p, e, x.reads h⟩) ?h9 ?_
  case h9 =>
    intro wq hR a' h39 K hK
    have HK := Lib.hid hK
    clear hK
    go_wp2_with fail
    refine (word_calls wq pay.length (Nat.lt_of_le_of_lt (show pay.length ≤ 200 by omega) (by decide))).mono ?_
    rintro e w9 ⟨p, rfl, hrow, hx9⟩
    have HRW := Lib.hid (readsAny hrow)
    have HX9 := Lib.hid (show Ext wq w9 from hx9)
    clear hrow hx9
    go_wp2_with fail
    exact HK.out _ _ HX9.out ⟨p, rfl, HRW.out⟩
  refine relyD_end ?_
  intro wq hR
  simp only [had, List.take_succ_cons, List.take_zero, List.map_cons, List.map_nil, List.cons_append, List.nil_append, ends, Act.put, List.setIfInBounds_toArray, List.set_cons_zero, List.set_cons_succ]
  rintro v40 ⟨p4, rfl, hrd4⟩
  refine hNy _ _ ?_
  have hrow8 := Ext.keep (Lcl.row _ _ _ _) hR HROW7.out
  have hlen : (([(nl : Int)] ++ nb ++ [(K6 : Int)]).length + (wd pay.length).length) * 1 ≤ 140737488355328 := by
    have := HNL.out
    simp [wd, this]; omega
  obtain ⟨v0, w8, S9, hrun, hrow9, hst9⟩ := run_append (P := Try.prog) wq 22 22 5 .u8 1 Try.underlying22 Crc.info_u8 (by decide) (.slice (some ⟨g3, 0, none⟩) (1 + nl + 1) c3) ([(nl : Int)] ++ nb ++ [(K6 : Int)]) (wd pay.length) _ (some ⟨p4, 0, none⟩) 4 hrow8 hrd4 hlen
  have hhd : ([(nl : Int)] ++ nb ++ [(K6 : Int)]) ++ wd pay.length = headB nb K6 pay.length := by unfold headB; rw [HNL.out]
  rw [hhd] at hrow9
  obtain ⟨A9, c9, rfl, _⟩ := hrow9.shape
  have HHL := Lib.hid (show (headB nb K6 pay.length).length = nl + 6 by rw [head_len, HNL.out])
  have HHB := Lib.hid (head_bytes HNS.out (by rw [HNL.out]; exact hnb2) (show K6 ≤ 255 by omega) pay.length)
  have HSM := Lib.hid (show sumd (headB nb K6 pay.length) ++ sumd pay = frameB nb K6 pay from rfl)
  generalize headB nb K6 pay.length = HD at hrow9 hrun HHL HHB HSM
  have HRD9 := Lib.hid (readsAny hrow9)
  have hxq : Ext w wq := Ext.trans _ _ _ X7.out hR
  have X8 := Lib.hid (show Ext w w8 from Below.trans hxq (hst9.keep.below hxq.size (fun k hk hs => by have h1 : k = g3 := hs; omega)))
  have e0 := hst9.keep.cell (hR.cell j0) (show ¬ pf = g3 by omega)
  have e1 := hst9.keep.cell (hR.cell j1) (show ¬ pf = g3 by omega)
  have e2 := hst9.keep.cell (hR.cell j2) (show ¬ pf = g3 by omega)
  have HRUN := Lib.hid hrun
  clear hst9 hrow9 hrow8 hrun hrd4 hR j0 j1 j2 HROW7 hxq hlen hhd X7
  refine next_win 10 12 (fun a b => a = b) (fun a b => a = b ∨ (a = wq ∧ b = w8)) 10 1023 (fun _ _ h => .inl h) (fun _ => rfl) (fun _ _ _ h k => h.trans k) (fun _ => .inl rfl) (fun x y z h k => by
    rcases h with rfl | ⟨h1, h2⟩
    · exact k
    · rcases k with rfl | ⟨_, k2⟩
      · exact .inr ⟨h1, h2⟩
      · exact .inr ⟨h1, k2⟩) [[(35, none), (40, none)], [(41, some 10)]] [none, none, none, none, none, none, none, none, none, none, some 41, some 4] (by kernel_rfl) (by kernel_rfl) (by kernel_rfl) (by kernel_rfl) ?_
  intro Nz hNz
  refine relyD_the rfl (fun v w => v = .slice A9 HD.length c9 ∧ w = w8) (fun v w w' h r => ⟨h.1, by
    rcases r with rfl | ⟨_, r2⟩
    · exact h.2
    · exact r2⟩) ?h10 ?_
  case h10 =>
    rintro w' rfl a' h35 h40 K hK
    refine append_known wq rfl _ _ 22 rfl (.slice (some ⟨g3, 0, none⟩) (1 + nl + 1) c3) (.slice (some ⟨p4, 0, none⟩) 4 4) (.slice A9 HD.length c9) w8 ?_ ?_ HRUN.out ?_
    · exact h35
    · exact h40
    · have HK := hK (.slice A9 HD.length c9) w8 (.inr ⟨rfl, rfl⟩) ⟨rfl, rfl⟩
      go_wp2_with fail
      exact HK
  apply relyD_const (by decide) (by decide); case h => (rintro w' hw' a' v h41 ⟨rfl, rfl⟩ K hK; go_wp2_with fail; rfl)
  refine relyD_end ?_
  intro wz hR
  simp only [had, List.take_succ_cons, List.take_zero, List.map_cons, List.map_nil, List.cons_append, List.nil_append, ends, Act.put, List.setIfInBounds_toArray, List.set_cons_zero, List.set_cons_succ]
  rintro v9 ⟨rfl, rfl⟩
  refine hNz _ _ ?_
  refine next_done rfl ?_
  try simp only [Act.put, List.setIfInBounds_toArray, List.set_cons_zero, List.set_cons_succ]
  clear HRUN
  have HR8 := Lib.hid (Ext.reads X8.out HR.out)
  have hck : checkF nb.length K6 pay.length = 0 := checkF_ok.2 ⟨by rw [HNL.out]; exact hnb1, by rw [HNL.out]; exact hnb2, hK6b, by omega⟩
  have HCK := Lib.hid hck
  have hp := put_c nb pay K6 c2 A2 _ HR8.out HB.out HNS.out (by omega) hck
  have HP := Lib.hid hp
  clear hp hck
  go_wp2_with fail
  refine HP.out.mono ?_
  rintro e w9 ⟨A10, c10, rfl, hrd10, hcp1, hcp2, hx9⟩
  have hfl : (frameB nb K6 pay).length = nl + 10 + pay.length + 4 := by rw [frame_len, HNL.out]
  have X9 := Lib.hid (Ext.trans _ _ _ X8.out hx9)
  have HRD9b := Lib.hid hrd10
  have HRH9 := Lib.hid (hx9.reads HRD9.out)
  have HR9a := Lib.hid (hx9.reads HR8.out)
  replace e0 := hx9.cell e0
  replace e1 := hx9.cell e1
  replace e2 := hx9.cell e2
  have HCP := Lib.hid (And.intro hcp1 hcp2)
  have HFB := Lib.hid (frame_bytes HNS.out HB.out (by rw [HNL.out]; exact hnb2) (show K6 ≤ 255 by omega))
  have HTP := Lib.hid (take_put HNS.out HB.out HCK.out)
  clear hrd10 hcp1 hcp2 hx9 HP HCK HRD9 HR8 X8
  generalize frameB nb K6 pay = FB at HSM hfl HRD9b HCP HFB HTP
  have HFL := Lib.hid hfl
  have hfb : FB.length ≤ 1000 := by omega
  clear hfl
  go_wp2_with fail
  refine (take_c A10 c10 FB w9 HRD9b.out HFB.out (by omega) HCP.out.1 HCP.out.2).mono ?_
  rintro e w10 ⟨hx10, ht⟩
  rw [HTP.out] at ht
  obtain ⟨A11, c11, rfl, hrd11⟩ := ht
  have hx11 : Ext w10 (w10.alloc (.cells #[.string (strOfNums nb), .int .u8 K6, .slice A11 pay.length c11] 30)) := (Below.refl _ _).alloc (Nat.le_refl _) _
  have hb11 := heap_alloc_new w10 (.cells #[.string (strOfNums nb), .int .u8 K6, .slice A11 pay.length c11] 30)
  have y0 := Blk.cell (S := fun q => q = w10.heap.size) ⟨hb11, fun _ => Iff.rfl⟩ 0
  have y1 := Blk.cell (S := fun q => q = w10.heap.size) ⟨hb11, fun _ => Iff.rfl⟩ 1
  have y2 := Blk.cell (S := fun q => q = w10.heap.size) ⟨hb11, fun _ => Iff.rfl⟩ 2
  simp only [List.getElem?_toArray, List.getElem?_cons_zero, List.getElem?_cons_succ] at y0 y1 y2
  have hx12 := Ext.trans _ _ _ hx10 hx11
  have X11 := Lib.hid (Ext.trans _ _ _ X9.out hx12)
  have HRD10 := Lib.hid (hx12.reads HRD9b.out)
  have HRD11 := Lib.hid (hx11.reads hrd11)
  have HRH := Lib.hid (hx12.reads HRH9.out)
  have HR9 := Lib.hid (hx12.reads HR9a.out)
  replace e0 := hx12.cell e0
  replace e1 := hx12.cell e1
  replace e2 := hx12.cell e2
  clear hx10 hx11 hb11 hx12 hrd11 HTP HRD9b HRH9 HR9a X9 HCP

  have hstr : strOfNums (sumd HD) ++ strOfNums (sumd pay) = strOfNums FB := by rw [str_app, HSM.out]
  have hsz1 : (strOfNums (sumd HD)).size = nl + 10 := by rw [Crc.size_str, sumd_len, HHL.out]
  have hsz2 : (strOfNums (sumd pay)).size = pay.length + 4 := by rw [Crc.size_str, sumd_len]
  go_wp2_with fail
  refine wp_region_rely (by kernel_rfl) Ext Ext.refl Ext.trans [[(6, none)], [(52, some 0)], [(53, some 1)], [(5, none)], [(55, some 3)], [(4, none)], [(57, some 5)], [(3, none)], [(59, some 7)], [(60, some 8)], [(58, some 6), (61, some 9)], [(56, some 4), (62, some 10)], [(54, some 2), (63, some 11)], [(64, some 12)], [(5, none)], [(66, some 14)], [(3, none)], [(68, some 16)], [(67, some 15), (69, some 17)], [(65, some 13), (70, some 18)], [(71, some 19)], [(8, none)], [(73, some 21)], [(72, some 20), (74, some 22)], [(75, some 23)], [(7, none)], [(77, some 25)], [(3, none)], [(79, some 27)], [(78, some 26), (80, some 28)], [(76, some 24), (81, some 29)], [(82, some 30)], [(7, none)], [(84, some 32)], [(3, none)], [(86, some 34)], [(85, some 33), (87, some 35)], [(83, some 31), (88, some 36)], [(89, some 37)], [(7, none)], [(91, some 39)], [(92, some 40)], [(3, none)], [(94, some 42)], [(95, some 43)], [(93, some 41), (96, some 44)], [(90, some 38), (97, some 45)], [(98, some 46)]] [some 52, some 53, some 54, some 55, some 56, some 57, some 58, some 59, some 60, some 61, some 62, some 63, some 64, some 65, some 66, some 67, some 68, some 69, some 70, some 71, some 72, some 73, some 74, some 75, some 76, some 77, some 78, some 79, some 80, some 81, some 82, some 83, some 84, some 85, some 86, some 87, some 88, some 89, some 90, some 91, some 92, some 93, some 94, some 95, some 96, some 97, some 98, some 2] (by kernel_rfl) (by kernel_rfl) ?_
  apply rely_const; case h => (intro wr hR a h6 K hK; go_wp2_with fail; exact Ext.refl _)
  apply rely_const; case h => (intro wr hR a h52 K hK; go_wp2_with fail; exact Ext.refl _)
  apply rely_const; case h => (intro wr hR a h53 K hK; go_wp2_with fail; exact Ext.refl _)
  apply rely_const_in _ rfl; case h => (intro wr hR a h5 K hK; go_wp2_with fail; exact Ext.refl _)
  apply rely_const_in _ rfl; case h => (intro wr hR a h55 K hK; have cv : (convert 22 9 (.slice A10 FB.length c10)).run Try.prog wr = .ok (.string (strOfNums FB)) wr := (hR.undrew.reads HRD10.out).string (P := Try.prog) Try.underlying22 Try.underlying5 Try.underlying9 c10; go_wp2_with fail; exact Ext.refl _)
  apply rely_const_in _ rfl; case h => (intro wr hR a h4 K hK; go_wp2_with fail; exact Ext.refl _)
  apply rely_const_in _ rfl
  case h =>
    intro wr hR a h57 K hK
    have hs := summed_calls wr A9 c9 HD (hR.undrew.reads HRH.out) HHB.out (by have := HHL.out; omega)
    rw [str_app] at hs
    have HS := Lib.hid (show Calls Try.prog 19 #[.slice A9 HD.length c9] wr fun e w' => e = .returned (.string (strOfNums (sumd HD))) ∧ Below wr.heap.size wr w' from hs)
    clear hs
    go_wp2_with fail
    refine (HS.out).mono ?_
    rintro e w2 ⟨rfl, hb⟩
    go_wp2_with fail
    exact hb
  apply rely_const_in _ rfl; case h => (intro wr hR a h3 K hK; go_wp2_with fail; exact Ext.refl _)
  apply rely_const_in _ rfl; case h => (intro wr hR a h59 K hK; have k9 := hR.undrew.cell e2; go_wp2_with fail; exact Ext.refl _)
  apply rely_const_in _ rfl
  case h =>
    intro wr hR a h60 K hK
    have hs := summed_calls wr A2 c2 pay (hR.undrew.reads HR9.out) HB.out (by omega)
    rw [str_app] at hs
    have HS := Lib.hid (show Calls Try.prog 19 #[.slice A2 pay.length c2] wr fun e w' => e = .returned (.string (strOfNums (sumd pay))) ∧ Below wr.heap.size wr w' from hs)
    clear hs
    go_wp2_with fail
    refine (HS.out).mono ?_
    rintro e w2 ⟨rfl, hb⟩
    go_wp2_with fail
    exact hb
  apply rely_const_in _ rfl; case h => (intro wr hR a h58 h61 K hK;  go_wp2_with fail; exact Ext.refl _)
  apply rely_const_in _ rfl; case h => (intro wr hR a h56 h62 K hK; go_wp2_with fail; exact Ext.refl _)
  apply rely_const; case h => (intro wr hR a h54 h63 K hK; go_wp2_with fail; exact Ext.refl _)
  apply rely_const; case h => (intro wr hR a h64 K hK; go_wp2_with fail; exact Ext.refl _)
  apply rely_const_in _ rfl; case h => (intro wr hR a h5 K hK; go_wp2_with fail; exact Ext.refl _)
  apply rely_const_in _ rfl; case h => (intro wr hR a h66 K hK; go_wp2_with fail; exact Ext.refl _)
  apply rely_const_in _ rfl; case h => (intro wr hR a h3 K hK; have k0 := hR.undrew.cell e0; have k1 := hR.undrew.cell e1; have k2 := hR.undrew.cell e2; go_wp2_with fail; exact Ext.refl _)
  apply rely_const_in _ rfl
  case h =>
    intro wr hR a h68 K hK
    have hs := size_c (strOfNums nb) K6 pay.length c2 A2 wr (by omega) (by omega)
    rw [hszn, ← HFL.out] at hs
    have HS := Lib.hid hs
    clear hs
    go_wp2_with fail
    refine (HS.out).mono ?_
    rintro e w2 ⟨rfl, hb⟩
    go_wp2_with fail
    exact hb
  apply rely_const_in _ rfl; case h => (intro wr hR a h67 h69 K hK; go_wp2_with fail; exact Ext.refl _)
  apply rely_const; case h => (intro wr hR a h65 h70 K hK; go_wp2_with fail; exact Ext.refl _)
  apply rely_const; case h => (intro wr hR a h71 K hK; go_wp2_with fail; exact Ext.refl _)
  apply rely_const_in _ rfl; case h => (intro wr hR a h8 K hK; go_wp2_with fail; exact Ext.refl _)
  apply rely_const_in _ rfl; case h => (intro wr hR a h73 K hK; go_wp2_with fail; exact Ext.refl _)
  apply rely_const; case h => (intro wr hR a h72 h74 K hK; go_wp2_with fail; exact Ext.refl _)
  apply rely_const; case h => (intro wr hR a h75 K hK; go_wp2_with fail; exact Ext.refl _)
  apply rely_const_in _ rfl; case h => (intro wr hR a h7 K hK; go_wp2_with fail; exact Ext.refl _)
  apply rely_const_in _ rfl; case h => (intro wr hR a h77 K hK; have k9 := hR.undrew.cell y0; go_wp2_with fail; exact Ext.refl _)
  apply rely_const_in _ rfl; case h => (intro wr hR a h3 K hK; go_wp2_with fail; exact Ext.refl _)
  apply rely_const_in _ rfl; case h => (intro wr hR a h79 K hK; have k9 := hR.undrew.cell e0; go_wp2_with fail; exact Ext.refl _)
  apply rely_const_in _ rfl; case h => (intro wr hR a h78 h80 K hK; go_wp2_with fail; exact Ext.refl _)
  apply rely_const; case h => (intro wr hR a h76 h81 K hK; go_wp2_with fail; exact Ext.refl _)
  apply rely_const; case h => (intro wr hR a h82 K hK; go_wp2_with fail; exact Ext.refl _)
  apply rely_const_in _ rfl; case h => (intro wr hR a h7 K hK; go_wp2_with fail; exact Ext.refl _)
  apply rely_const_in _ rfl; case h => (intro wr hR a h84 K hK; have k9 := hR.undrew.cell y1; go_wp2_with fail; exact Ext.refl _)
  apply rely_const_in _ rfl; case h => (intro wr hR a h3 K hK; go_wp2_with fail; exact Ext.refl _)
  apply rely_const_in _ rfl; case h => (intro wr hR a h86 K hK; have k9 := hR.undrew.cell e1; go_wp2_with fail; exact Ext.refl _)
  apply rely_const_in _ rfl; case h => (intro wr hR a h85 h87 K hK; go_wp2_with fail; exact Ext.refl _)
  apply rely_const; case h => (intro wr hR a h83 h88 K hK; go_wp2_with fail; exact Ext.refl _)
  apply rely_const; case h => (intro wr hR a h89 K hK; go_wp2_with fail; exact Ext.refl _)
  apply rely_const_in _ rfl; case h => (intro wr hR a h7 K hK; go_wp2_with fail; exact Ext.refl _)
  apply rely_const_in _ rfl; case h => (intro wr hR a h91 K hK; have k9 := hR.undrew.cell y2; go_wp2_with fail; exact Ext.refl _)
  apply rely_const_in _ rfl; case h => (intro wr hR a h92 K hK; have cv : (convert 22 9 (.slice A11 pay.length c11)).run Try.prog wr = .ok (.string (strOfNums pay)) wr := (hR.undrew.reads HRD11.out).string (P := Try.prog) Try.underlying22 Try.underlying5 Try.underlying9 c11; go_wp2_with fail; exact Ext.refl _)
  apply rely_const_in _ rfl; case h => (intro wr hR a h3 K hK; go_wp2_with fail; exact Ext.refl _)
  apply rely_const_in _ rfl; case h => (intro wr hR a h94 K hK; have k9 := hR.undrew.cell e2; go_wp2_with fail; exact Ext.refl _)
  apply rely_const_in _ rfl; case h => (intro wr hR a h95 K hK; have cv : (convert 22 9 (.slice A2 pay.length c2)).run Try.prog wr = .ok (.string (strOfNums pay)) wr := (hR.undrew.reads HR9.out).string (P := Try.prog) Try.underlying22 Try.underlying5 Try.underlying9 c2; go_wp2_with fail; exact Ext.refl _)
  apply rely_const_in _ rfl; case h => (intro wr hR a h93 h96 K hK; go_wp2_with fail; exact Ext.refl _)
  apply rely_const; case h => (intro wr hR a h90 h97 K hK; go_wp2_with fail; exact Ext.refl _)
  apply rely_const; case h => (intro wr hR a h98 K hK; go_wp2_with fail; exact Ext.refl _)
  refine rely_end ?_
  intro wr hR
  simp only [ends, Act.put, List.setIfInBounds_toArray, List.set_cons_zero, List.set_cons_succ]
  go_wp2_with fail
  go_ret
  exact ⟨rfl, Ext.trans _ _ _ X11.out hR.undrew⟩
end Go.Proofs.Ytfpeeilenocaoaa.Frame
