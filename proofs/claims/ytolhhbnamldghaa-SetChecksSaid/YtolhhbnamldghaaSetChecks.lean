/- The law SetChecks, at every input. -/
import Derived.Test.YtolhhbnamldghaaSetChk
namespace Go.Proofs.Ytolhhbnamldghaa.Set
open Go.RowKit Go.Proofs.Ytolhhbnamldghaa.Own Go.Proofs.Ytolhhbnamldghaa.Rely
attribute [local go_sem] max_ints min_ints

section
variable {P : Program}
/-- append(s, y), where s stays in use: s is as it was, whether the new row lies in its spare room or elsewhere. -/
theorem run_append_keep (w : World) (t ty e : TypeId) (k : IntKind) (bytes : Nat) (ht : P.underlying t = some (.slice e)) (hinfo : (P.info? e).map (fun i => (i.zero, i.size, i.bytes)) = some (some (.int k 0), 1, bytes)) (hb0 : 0 < bytes)
    (v : Value) (xs : List Int) (y : Int) (S : Nat → Prop) (A : Option Addr) (c : Nat) (h : Row e k v xs w S) (hr : Reads w k A [y]) (hl : (xs.length + 1) * bytes ≤ 140737488355328) :
    ∃ A' c' w', (Builtin.append_ #[t, t] ty #[v, .slice A 1 c]).run P w = .ok (.slice A' (xs.length + 1) c') w' ∧ Row e k v xs w' S ∧ Reads w' k A' (xs ++ [y]) ∧ Step S S w w' := by
  have hlen : xs.length + 1 ≤ 140737488355328 := Nat.le_trans (Nat.le_mul_of_pos_right _ hb0) hl
  obtain ⟨i0, hi, hzz⟩ := Option.map_eq_some_iff.1 hinfo
  simp only [Prod.mk.injEq] at hzz
  obtain ⟨hz0, hz1, hz2⟩ := hzz
  rcases h.1.2 with ⟨rfl, hn⟩ | ⟨g, cap, cur0, rfl, _, hg, hnc, hm, hcs, htk⟩
  · obtain rfl : xs = [] := List.eq_nil_of_length_eq_zero hn
    obtain ⟨v', w', S', hrun, hrow, hst⟩ := run_append (P := P) w t ty e k bytes ht hinfo hb0 (.slice none 0 0) [] [y] S A c h hr (by simpa using hl)
    obtain ⟨A', c', rfl, _⟩ := hrow.shape
    refine ⟨A', c', w', hrun, ⟨World.ownsRow_nil w' 0 e 1, h.2⟩, Row.reads' hrow, hst.keep, fun q hq => .inl hq⟩
  · obtain ⟨b, o, rfl, _, hcy⟩ := hr 0 (by simp)
    have hnews : ∀ j u, ([Value.int k y])[j]? = some u → w.cell? ((⟨b, o, none⟩ : Addr).add j) = some u := by
      intro j u hu
      cases j with
      | zero =>
        obtain rfl : Value.int k y = u := by simpa using hu
        rw [add_lit', hcy]; rfl
      | succ j => simp at hu
    simp only [Nat.mul_one] at hcs htk
    by_cases hroom : xs.length + 1 ≤ cap
    · have hrun := run_append_room (P := P) w t ty e i0 ht hi g xs.length cap cur0 hg ⟨b, o, none⟩ 1 c [Value.int k y] (by rw [hz1]; rfl) hnews (by intro u hu; simp at hu; subst hu; rfl) hroom (by rw [hz1]; simp; omega)
      rw [hz1] at hrun
      simp only [Nat.mul_one] at hrun
      obtain ⟨N, hN⟩ : ∃ N, N = cur0.toList.take xs.length ++ [Value.int k y] ++ cur0.toList.drop (xs.length + [Value.int k y].length) := ⟨_, rfl⟩
      rw [← hN] at hrun
      have hg' := setRow_heap w g cur0 N.toArray e (0, 0) hg
      have hNl : N.length = cap := by rw [hN]; simp [hcs]; omega
      have hN1 : N.take xs.length = xs.map (Value.int k) := by
        rw [hN, htk, List.append_assoc, List.take_append_of_le_length (by simp)]
        exact List.take_of_length_le (by simp)
      have hN2 : N.take (xs ++ [y]).length = (xs ++ [y]).map (Value.int k) := by
        rw [hN, htk, List.map_append, List.length_append]
        rw [List.take_append_of_le_length (by simp)]
        exact List.take_of_length_le (by simp)
      have hrow := block_row (k := k) (xs := xs) hg' (cap := cap) hnc hNl hN1 hm
      have hrow2 := block_row (k := k) (xs := xs ++ [y]) hg' (cap := cap) (by simpa using hroom) hNl hN2 hm
      have hS : (fun b => b = g) = S := funext fun q => propext (by rw [h.2 q]; simp [Value.ownBlock, eq_comm])
      rw [hS] at hrow
      refine ⟨some ⟨g, 0, none⟩, cap, _, hrun, hrow, Row.reads' hrow2, ⟨rfl, rfl, rfl, by simp, fun q _ hn => setRow_other w g q _ (fun e => hn (by rw [← hS]; exact e))⟩, fun q hq => .inl hq⟩
    · obtain ⟨v', w', hrun, r1, r2⟩ := run_append_arg_grows (P := P) w t ty e i0 (.int k 0) 1 bytes ht hi hz0 hz1 hz2 rfl (by omega) ⟨g, 0, none⟩ xs.length cap (xs.map (Value.int k)) (by simp) (fun j u hu => h.1.cells (g := g) rfl j u hu)
        ⟨b, o, none⟩ 1 c [Value.int k y] rfl hnews (by omega) (by simp only [maxLen]; omega) hl
      have r1' : w'.ownsRow w.heap.size e 1 v' (xs ++ [y]).length ((xs ++ [y]).map (Value.int k)) := by simpa using r1
      have r0 : Row e k v' (xs ++ [y]) w' (fun b => v'.ownBlock = some b) := ⟨⟨r1'.1, r1'.2.imp id (fun ⟨g, cap, cur, q1, _, q3⟩ => ⟨g, cap, cur, q1, Nat.zero_le _, q3⟩)⟩, fun _ => Iff.rfl⟩
      obtain ⟨A', c', rfl, _⟩ := r0.shape
      have hgl : g < w.heap.size := (Array.getElem?_eq_some_iff.1 hg).1
      have hk : Row e k (.slice (some ⟨g, 0, none⟩) xs.length cap) xs w' S := (Lcl.row _ _ _ _).keep h fun q hq => r2.block q ((Lcl.row _ _ _ _).lt h hq) (by simp)
      rw [List.length_append] at hrun
      exact ⟨A', c', w', hrun, hk, Row.reads' r0, ⟨r2.os, r2.tape, r2.output, r2.size, fun q hq _ => r2.block q hq (by simp)⟩, fun q hq => .inl hq⟩

variable {ops : Array Oper} {rest : List Oper} {o : Oper} {a : Act} {Q : Exit → Act → World → Prop}
theorem append_keep_in (w : World) (hgd : Region.wanted o (yielded ops a.tmps) = true) (s x : Operand) (t : TypeId) (ho : o.op = .call { callee := .builtin .append, args := #[s, x], argTypes := #[t, t] })
    (e : TypeId) (k : IntKind) (bytes : Nat) (ht : P.underlying t = some (.slice e)) (hinfo : (P.info? e).map (fun i => (i.zero, i.size, i.bytes)) = some (some (.int k 0), 1, bytes)) (hb0 : 0 < bytes)
    (v : Value) (xs : List Int) (y : Int) {S : Nat → Prop} (A : Option Addr) (c : Nat) (hs : a.eval s = v) (hx : a.eval x = .slice A 1 c)
    (h : Row e k v xs w S) (hr : Reads w k A [y]) (hl : (xs.length + 1) * bytes ≤ 140737488355328)
    (K : ∀ A' c' w', Row e k v xs w' S → Reads w' k A' (xs ++ [y]) → Step S S w w' → wpList P ops Q rest (a.put o.dst (.slice A' (xs.length + 1) c')) w') : wpList P ops Q (o :: rest) a w := by
  obtain ⟨A', c', w', hrun, h1, h2, h3⟩ := run_append_keep (P := P) w t o.type e k bytes ht hinfo hb0 v xs y S A c h hr hl
  refine BigFrame.wpList_want hgd fun K' hK => ?_
  unfold Oper.wp execOp
  simp only [ho, resolve, invoke, builtin, Sem.run_bind, Sem.run_pure, Result.andThen_ok, List.map_toArray, List.map_cons, List.map_nil, hs, hx, hrun]
  exact hK _ _ (K A' c' w' h1 h2 h3)
end

def wantS (x : List Int) (k : Nat) : Int := if (List.range (k - 1)).all (fun i => x.getD i 0 < x.getD (i + 1) 0) then 0 else 8
theorem wantS_check {x : List Int} (h : x.length ≤ 4096) : wantS x x.length = checkS x := by
  unfold wantS checkS; rw [if_neg (show ¬ 4096 < x.length by omega)]
theorem wantS_one (x : List Int) : wantS x 1 = 0 := rfl
theorem wantS_step (x : List Int) (q : Nat) : wantS x (q + 2) = if x.getD q 0 < x.getD (q + 1) 0 then wantS x (q + 1) else 8 := by
  unfold wantS
  rw [show q + 2 - 1 = q + 1 by omega, show q + 1 - 1 = q by omega, List.range_succ, List.all_append]
  by_cases h : x.getD q 0 < x.getD (q + 1) 0
  · rw [if_pos h]
    have : ([q].all fun i => decide (x.getD i 0 < x.getD (i + 1) 0)) = true := by simpa using h
    rw [this, Bool.and_true]
  · rw [if_neg h]
    have : ([q].all fun i => decide (x.getD i 0 < x.getD (i + 1) 0)) = false := by simpa using h
    rw [this, Bool.and_false]; rfl
theorem wantS_end {x : List Int} {k : Nat} (h4 : x.length ≤ 4096) (h : x.length ≤ k) (hk : k ≤ x.length ∨ k = 1) : wantS x k = checkS x := by
  rw [← wantS_check h4]
  rcases hk with hk | rfl
  · rw [show k = x.length by omega]
  · unfold wantS; rw [show x.length - 1 = 0 by omega]
def U32s (l : List Int) : Prop := ∀ x ∈ l, 0 ≤ x ∧ x ≤ 4294967295
/-- 0, 1, 2, .. up to a place, then noughts. -/
def manyL (n : Nat) : List Int := (List.range n).map Int.ofNat ++ List.replicate (4097 - n) 0
theorem many_zero : manyL 0 = List.replicate 4097 0 := rfl
theorem manyL_len {n : Nat} (h : n ≤ 4097) : (manyL n).length = 4097 := by unfold manyL; simp; omega
theorem manyL_step {n : Nat} (h : n < 4097) : manyL (n + 1) = (manyL n).set n (n : Int) := by
  unfold manyL
  rw [List.range_succ, List.map_append, List.set_append_right _ _ (by simp), show 4097 - n = (4097 - (n + 1)) + 1 by omega, List.replicate_succ]
  simp
theorem ofL_asc : ∀ (l s : List Int), Asc (s ++ l) → s.length ≤ 4096 → ofL s l = if s.length + l.length ≤ 4096 then some (s ++ l) else none
  | [], s, _, hs => by rw [ofL, List.length_nil, if_pos (by omega), List.append_nil]
  | n :: l, s, ha, hs => by
    have hf : findD s n s.length = some s.length := by
      cases hsl : s.length with
      | zero => rfl
      | succ m =>
        have hlt : s.getD m 0 < n := by
          rw [Asc, List.pairwise_append] at ha
          exact ha.2.2 _ (by rw [List.getD_eq_getElem?_getD, List.getElem?_eq_getElem (by omega)]; exact List.getElem_mem _) n List.mem_cons_self
        show (if n ≤ s.getD m 0 then _ else _) = _
        rw [if_neg (by omega)]
    have hi : ins s s.length n = s ++ [n] := by unfold ins; rw [List.take_length, List.drop_length]
    unfold ofL
    rw [hf]
    simp only
    rw [hi]
    by_cases h4 : s.length = 4096
    · rw [if_pos h4, if_neg (by rw [List.length_cons]; omega)]
    · rw [if_neg h4, ofL_asc l (s ++ [n]) (by rw [List.append_assoc]; exact ha) (by rw [List.length_append, List.length_singleton]; omega), List.length_append, List.length_singleton, List.length_cons, List.append_assoc]
      simp only [show s.length + 1 + l.length = s.length + (l.length + 1) by omega]
      rfl
theorem many_cons : ∃ T, manyL 4097 = 0 :: T ∧ T.length = 4096 ∧ Asc (0 :: T) := by
  have ha : Asc (manyL 4097) := by
    unfold manyL
    rw [Nat.sub_self, List.replicate_zero, List.append_nil, Asc, List.pairwise_map]
    exact List.pairwise_lt_range.imp fun h => by simpa using h
  have hl := manyL_len (Nat.le_refl 4097)
  have h0 : (manyL 4097).getD 0 0 = 0 := by unfold manyL; rw [List.range_succ_eq_map]; rfl
  cases hm : manyL 4097 with
  | nil => rw [hm] at hl; cases hl
  | cons x T =>
    rw [hm] at h0 hl ha
    obtain rfl : x = 0 := h0
    exact ⟨T, rfl, by simpa using hl, ha⟩
theorem take_snoc2 (xs : List Int) (k : Nat) (hk : k < xs.length) : xs.take (k + 1) = xs.take k ++ [xs.getD k 0] ∧ True := by
  refine ⟨?_, trivial⟩
  rw [List.take_succ_eq_append_getElem hk]; simp [List.getD_eq_getElem?_getD, List.getElem?_eq_getElem hk]
set_option maxHeartbeats 8000000 in
set_option maxRecDepth 20000 in
theorem checks_wf (A : Option Addr) (c : Nat) (l : List Int) (B : Option Addr) (d : Nat) (sm : List Int) (kk : Int) (w : World) (h : ArgI w .u32 A c l) (h' : ArgI w .u8 B d sm) (hk : (Lit.int .u8 kk).wf = true) :
    Calls Try.prog 3 #[.slice A l.length c, .slice B sm.length d, .int .u8 kk] w fun e w' => e = .returned (.bool true) ∧ Below w.heap.size w w' := by
  have HA := Lib.hid h.reads
  have HB := Lib.hid h'.reads
  have HUA := Lib.hid (show U32s l from fun x hx => by
    have q : (decide (0 ≤ x) && decide (x ≤ 4294967295)) = true := h.rng x hx
    simpa using q)
  have hkk := wf_u8 hk
  have HUB := Lib.hid (show ∀ x ∈ sm, 0 ≤ x ∧ x ≤ 255 from fun x hx => wf_u8 (h'.rng x hx))
  clear h h' hk
  go_enter Try.func3, Try.ntmps3
  go_wp2_with fail
  refine (awake11 w).mono ?_
  rintro e w1 ⟨rfl, hb1⟩
  have HX1 := Lib.hid (show Ext w w1 from hb1)
  clear hb1
  by_cases hla : 50 < l.length
  · have g1 : decide ((50 : Int) < (l.length : Int)) = true := by simp <;> omega
    go_wp2_with fail
    go_ret
    exact ⟨rfl, HX1.out⟩
  have g1 : decide ((50 : Int) < (l.length : Int)) = false := by simp <;> omega
  by_cases hlb : 50 < sm.length
  · have g2 : decide ((50 : Int) < (sm.length : Int)) = true := by simp <;> omega
    go_wp2_with fail
    go_ret
    exact ⟨rfl, HX1.out⟩
  have g2 : decide ((50 : Int) < (sm.length : Int)) = false := by simp <;> omega
  have hna : l.length ≤ 50 := by omega
  have hnb : sm.length ≤ 50 := by omega
  have HRN := Lib.hid (Row.nil 26 .u32 w1)
  go_wp2_with fail
  go_loopw [7, 33] (fun v i wr => ∃ (k : Nat) (S' : Nat → Prop) (An : Option Addr) (cn : Nat), k ≤ sm.length ∧ i = .int .i64 k ∧ v = .slice An (sm.take k).length cn ∧ Row 26 .u32 (.slice An (sm.take k).length cn) (sm.take k) wr S' ∧ Step (fun _ => False) S' w wr) (fun _ i _ => sm.length - (intOf i).toNat)
  case atStart => exact ⟨0, _, none, 0, by omega, rfl, rfl, HRN.out, ⟨Keep.of_below HX1.out, fun _ q => .inl q⟩⟩
  case round =>
    obtain ⟨k, S', An, cn, hk, rfl, rfl, hw, hst⟩ := hrel
    have HW := Lib.hid hw
    have ST := Lib.hid hst
    clear hw hst
    by_cases hlt : k < sm.length
    · obtain ⟨b, o, rfl, hblt, cx⟩ := (HB.out.later (ST.out.keep.below (Nat.le_refl _) (fun _ _ x => x))).at hlt
      have hz0 := HUB.out (sm.getD k 0) (by simp [List.getD_eq_getElem?_getD, List.getElem?_eq_getElem hlt])
      have HT := Lib.hid (take_snoc2 sm k hlt).1
      obtain ⟨m, hm⟩ : ∃ m, sm.getD k 0 = m := ⟨_, rfl⟩
      rw [hm] at cx hz0 HT
      clear hm
      have hk4 : (k : Int) < (sm.length : Int) := by omega
      generalize sm.take k = P at HW HT ⊢
      have hP : P.length ≤ 50 := by have := congrArg List.length HT.out; simp at this; omega
      go_wp2_with (at_builtin; go_loud (refine append_lit _ 26 rfl _ _ 25 rfl .u32 4 Try.underlying25 info_u32 (by decide) _ P [m] 1 1 rfl rfl rfl rfl Lcl.emp (Sep.emp_right HW.out) (by simp; omega) ?_); intro A' c' w' S2 h' st'; have H' := Lib.hid (Sep.left_of_emp h'); have ST' := Lib.hid (ST.out.trans st'); clear h' st')
      go_roundw
      case rel =>
        exact ⟨k + 1, S2, A', c', by omega, by go_num, by rw [HT.out, List.length_append]; rfl, by rw [HT.out, List.length_append]; exact H'.out, ST'.out⟩
      case measure => simp [intOf]; omega
    · obtain rfl : k = sm.length := by omega
      rw [List.take_of_length_le (Nat.le_refl _)] at HW ⊢
      have HN := Lib.hid (Row.reads' HW.out)
      have HX2 := Lib.hid (show Ext w wr from ST.out.keep.below (Nat.le_refl _) (fun _ _ x => x))
      have HU2 := Lib.hid (show U32s sm from fun x hx => by have := HUB.out x hx; omega)
      clear HW ST HB
      have hE5 : Ext wr (wr.alloc (.cells #[.slice A l.length c, .slice An sm.length cn] 25)) := (Below.refl _ _).alloc (Nat.le_refl _) _
      have c0 : (wr.alloc (.cells #[.slice A l.length c, .slice An sm.length cn] 25)).cell? ⟨wr.heap.size, 0, none⟩ = some (.slice A l.length c) := by rw [cell_of_row _ _ _ _ _ _ (heap_alloc_new wr _)]; rfl
      have c1 : (wr.alloc (.cells #[.slice A l.length c, .slice An sm.length cn] 25)).cell? ⟨wr.heap.size, 1, none⟩ = some (.slice An sm.length cn) := by rw [cell_of_row _ _ _ _ _ _ (heap_alloc_new wr _)]; rfl
      have HA5 := Lib.hid ((HX2.out.reads HA.out).later hE5)
      have HN5 := Lib.hid (HN.out.later hE5)
      have HX5 := Lib.hid (Ext.trans _ _ _ HX2.out hE5)
      clear hE5 HN HX2
      go_wp2_with fail
      generalize wr.alloc (.cells #[.slice A l.length c, .slice An sm.length cn] 25) = w5 at c0 c1 HA5 HN5 HX5 ⊢
      generalize wr.heap.size = g at c0 c1 ⊢
      have HEL : RowKit.Hid (∀ i : Nat, i < 2 → ∃ AX cX X, w5.cell? ⟨g, i, none⟩ = some (.slice AX (List.length X) cX) ∧ Reads w5 .u32 AX X ∧ U32s X ∧ X.length ≤ 50) := Lib.hid (by
        intro i hi
        match i, hi with
        | 0, _ => exact ⟨A, c, l, c0, HA5.out, HUA.out, hna⟩
        | 1, _ => exact ⟨An, cn, sm, c1, HN5.out, HU2.out, hnb⟩)
      clear c0 c1 HA5 HN5 HA HUA HUB HU2
      rename_i K0 hK0 K1 hK1
      clear hK0
      go_loopw [47] (fun v wr => ∃ (i : Nat), i ≤ 2 ∧ v = .int .i64 i ∧ Ext w5 wr) (fun v _ => 2 - (intOf v).toNat)
      case atStart => exact ⟨0, by omega, rfl, Ext.refl _⟩
      case round =>
        obtain ⟨i, hi, rfl, hx⟩ := hrel
        have HX := Lib.hid hx
        clear hx
        by_cases hlt2 : i < 2
        · obtain ⟨AX, cX, X, cx, hrx, hux, hlx⟩ := HEL.out i hlt2
          have cx' := Ext.cell HX.out cx
          have HRX := Lib.hid (HX.out.reads hrx)
          have HUX := Lib.hid hux
          clear cx hrx hux
          have hi4 : (i : Int) < 2 := by omega
          go_wp2_with fail
          rename_i J0 hJ0
          go_loopw [12, 13] (fun want v wr2 => ∃ (k : Nat), 1 ≤ k ∧ (k ≤ X.length ∨ k = 1) ∧ v = .int .i64 k ∧ want = .int .i64 (wantS X k) ∧ Ext wr wr2) (fun _ v _ => X.length - (intOf v).toNat)
          case atStart => exact ⟨1, Nat.le_refl _, .inr rfl, rfl, rfl, Ext.refl _⟩
          case round =>
            obtain ⟨k, hk, hkx, rfl, rfl, hx2⟩ := hrel
            have HX2 := Lib.hid hx2
            clear hx2
            by_cases hlt3 : k < X.length
            · obtain ⟨q, rfl⟩ : ∃ q, k = q + 1 := ⟨k - 1, by omega⟩
              obtain ⟨b, o, rfl, hbl, cx⟩ := HX2.out.reads HRX.out (q + 1) hlt3
              obtain ⟨b', o', e, _, cy⟩ := HX2.out.reads HRX.out q (by omega)
              injection e with e
              injection e with e1 e2 _
              subst e1 e2
              have HWS := Lib.hid (wantS_step X q)
              obtain ⟨x, hx⟩ : ∃ x, X.getD (q + 1) 0 = x := ⟨_, rfl⟩
              obtain ⟨y, hy⟩ : ∃ y, X.getD q 0 = y := ⟨_, rfl⟩
              rw [hx] at cx
              rw [hy] at cy
              rw [hx, hy] at HWS
              have cx2 : wr.cell? ⟨b, o + q + 1, none⟩ = some (.int .u32 x) := by rw [Nat.add_assoc]; exact cx
              have hq1 : ((q + 1 : Nat) : Int) < (X.length : Int) := by omega
              clear hx hy
              generalize wantS X (q + 1) = W at HWS ⊢
              by_cases hxy : y < x
              · have hd : decide (x ≤ y) = false := by simp; omega
                rw [if_pos hxy] at HWS
                clear hxy
                go_wp2_with fail
                go_quiet (fail)
                go_wp2_with fail
                go_roundw
                case rel => exact ⟨q + 2, by omega, .inl (by omega), by go_num, by rw [HWS.out], Ext.trans _ _ _ HX2.out (ext_drewN _ _)⟩
                case measure => simp [intOf]; omega
              · have hd : decide (x ≤ y) = true := by simp; omega
                rw [if_neg hxy] at HWS
                clear hxy
                go_wp2_with fail
                go_quiet (fail)
                go_wp2_with fail
                go_roundw
                case rel => exact ⟨q + 2, by omega, .inl (by omega), by go_num, by rw [HWS.out], Ext.trans _ _ _ HX2.out (ext_drewN _ _)⟩
                case measure => simp [intOf]; omega
            · have hwc : wantS X k = checkS X := wantS_end (by omega) (by omega) hkx
              have hrx2 := HX2.out.reads HRX.out
              have HX3 := Lib.hid (Ext.trans _ _ _ HX.out HX2.out)
              have HR3 := Lib.hid hrx2
              rw [hwc]
              clear hrx2 hwc HX2 HX HRX cx'
              have n1 := sepEmpty Lcl.emp (w := wr) (S := fun _ => False) (fun _ x => x) 26 .u32
              have HE1 := Lib.hid n1
              have HR4 := Lib.hid (HR3.out.later (w' := wr.alloc (.cells #[] 26)) ((Below.refl _ _).alloc (Nat.le_refl _) _))
              clear n1
              generalize hE : checkS X = E
              have HEE := Lib.hid hE
              clear hE
              have hEE : (E != E) = false := by simp
              go_wp2_with (at_builtin; refine append_row _ rfl _ _ 25 rfl 26 .u32 4 Try.underlying25 info_u32 (by decide) _ [] X AX X.length cX rfl rfl rfl Lcl.emp HE1.out.1 HR4.out (by simp; omega) ?_; intro A6 c6 w6 S6 h6 st6; simp only [List.length_nil, Nat.zero_add, List.nil_append] at h6 ⊢; have H6 := Lib.hid (Sep.left_of_emp h6); have ST6 := Lib.hid (HE1.out.2.trans st6); clear h6 st6)
              have HE6 := Lib.hid (show Ext wr w6 from ST6.out.keep.below (Nat.le_refl _) (fun _ _ x => x))
              refine (check_c AX cX X w6 (HE6.out.reads HR3.out) (by omega)).mono ?_
              rintro e w7 ⟨rfl, hx7⟩
              rw [HEE.out]
              have H7 := Lib.hid (Ext.keep (Lcl.row _ _ _ _) hx7 H6.out)
              have HE7 := Lib.hid (Ext.trans _ _ _ HE6.out hx7)
              clear hx7 H6
              go_wp2_with fail
              refine (same_c AX A6 cX c6 X X w7 (HE7.out.reads HR3.out) (Row.reads' H7.out) (by omega) (by omega)).mono ?_
              rintro e w8 ⟨rfl, hx8⟩
              rw [decide_eq_true rfl]
              have H8 := Lib.hid (Ext.keep (Lcl.row _ _ _ _) hx8 H7.out)
              have HE8 := Lib.hid (Ext.trans _ _ _ HE7.out hx8)
              clear hx8 H7
              have hxa : Ext w8 (w8.alloc (.cells #[.int .u32 1] 26)) := (Below.refl _ _).alloc (Nat.le_refl _) _
              have HA8 := Lib.hid (Ext.keep (Lcl.row _ _ _ _) hxa H8.out)
              have HEA := Lib.hid (Ext.trans _ _ _ HE8.out hxa)
              have HL8 := Lib.hid (Row.lit 26 .u32 [1] w8 (by decide)).readsAt
              clear hxa H8 HE8
              go_wp2_with (at_builtin; go_loud (refine append_keep_in _ rfl _ _ 25 rfl 26 .u32 4 Try.underlying25 info_u32 (by decide) (.slice A6 X.length c6) X 1 _ 1 rfl rfl HA8.out HL8.out (by omega) ?_); intro A9 c9 w9 h9 hr9 st9; have H9 := Lib.hid h9; have HR9 := Lib.hid hr9; have ST9 := Lib.hid st9; clear h9 hr9 st9)
              have hsta : Step (fun _ => False) S6 wr (w8.alloc (.cells #[.int .u32 1] 26)) := ⟨Keep.of_below HEA.out, ST6.out.fresh⟩
              have ST10 := Lib.hid (hsta.trans ST9.out)
              have HE9 := Lib.hid (show Ext wr w9 from ST10.out.keep.below (Nat.le_refl _) (fun _ _ x => x))
              clear hsta HEA HA8 HL8
              have hs := same_c AX A9 cX c9 X (X ++ [1]) w9 (HE9.out.reads HR3.out) HR9.out (by omega) (by rw [List.length_append, List.length_singleton]; omega)
              rw [List.length_append, List.length_singleton, decide_eq_false (fun e => by have := congrArg List.length e; simp at this)] at hs
              refine hs.mono ?_
              clear hs
              rintro e w10 ⟨rfl, hx10⟩
              have H10 := Lib.hid (Ext.keep (Lcl.row _ _ _ _) hx10 H9.out)
              have ST11 := Lib.hid (show Step (fun _ => False) S6 wr w10 from ⟨Keep.of_below (Ext.trans _ _ _ HE9.out hx10), ST10.out.fresh⟩)
              have HE10 := Lib.hid (Ext.trans _ _ _ HE9.out hx10)
              clear hx10 H9 HR9 ST9 ST10
              by_cases hx0 : X.length = 0
              · have hd0 : decide ((0 : Int) < (X.length : Int)) = false := decide_eq_false (by omega)
                go_wp2_with fail
                go_roundw
                case rel => exact ⟨i + 1, by omega, by go_num, Ext.trans _ _ _ HX3.out HE10.out⟩
                case measure => simp [intOf]; omega
              · have hd0 : decide ((0 : Int) < (X.length : Int)) = true := by simp; omega
                obtain ⟨g6, rfl⟩ := row_some H10.out (by omega)
                obtain ⟨q, hq, hql⟩ : ∃ q : Nat, Int.tmod kk (X.length : Int) = q ∧ q < X.length := by
                  have h1 := Int.tmod_nonneg (X.length : Int) hkk.1
                  have h2 := Int.tmod_lt_of_pos kk (show (0 : Int) < (X.length : Int) by omega)
                  exact ⟨(Int.tmod kk (X.length : Int)).toNat, by omega, by omega⟩
                obtain ⟨cq, fq⟩ := row_at H10.out q hql
                have hz0 : ((X.length : Int) == 0) = false := by rw [beq_eq_false_iff_ne]; omega
                have hql4 : (q : Int) < (X.length : Int) := by omega
                have hzq := HUX.out (X.getD q 0) (by simp [List.getD_eq_getElem?_getD, List.getElem?_eq_getElem hql])
                obtain ⟨z, hz⟩ : ∃ z, X.getD q 0 = z := ⟨_, rfl⟩
                rw [hz] at cq hzq
                have HZ := Lib.hid hz
                clear hz
                obtain ⟨z', hz'⟩ : ∃ z', IntKind.u32.wrap (z + 1) = z' := ⟨_, rfl⟩
                have hne : z' ≠ z := by
                  have : IntKind.u32.wrap (z + 1) = (z + 1) % 4294967296 := by simp [IntKind.wrap, IntKind.bits, IntKind.signed]
                  omega
                have HSET := Lib.hid (H10.out.set q z')
                have HNE := Lib.hid (show decide (X = X.set q z') = false from decide_eq_false (fun e => hne (by
                  have h1 := congrArg (fun l => l.getD q 0) e
                  simp only [List.getD_eq_getElem?_getD, List.getElem?_set_self hql, Option.getD_some] at h1
                  rw [← h1, ← List.getD_eq_getElem?_getD]; exact HZ.out)))
                clear hne
                go_wp2_with fail
                have HE12 := Lib.hid (show Ext wr (w10.setCell ⟨g6, q, none⟩ (.int .u32 z')) from (ST11.out.trans HSET.out.2).keep.below (Nat.le_refl _) (fun _ _ x => x))
                have hs := same_c AX (some ⟨g6, 0, none⟩) cX c6 X (X.set q z') (w10.setCell ⟨g6, q, none⟩ (.int .u32 z')) (HE12.out.reads HR3.out) HSET.out.1.readsAt (by omega) (by rw [List.length_set]; omega)
                rw [List.length_set, HNE.out] at hs
                refine hs.mono ?_
                clear hs
                rintro e w13 ⟨rfl, hx13⟩
                have HE13 := Lib.hid (Ext.trans _ _ _ HE12.out hx13)
                clear hx13
                go_wp2_with fail
                go_roundw
                case rel => exact ⟨i + 1, by omega, by go_num, Ext.trans _ _ _ HX3.out HE13.out⟩
                case measure => simp [intOf]; omega
        · obtain rfl : i = 2 := by omega
          have hmk : ∀ w, (Instr.makeSlice 25 (.int .i64 4097) (.int .i64 4097)).run Try.prog w = .ok (.slice (some ⟨w.heap.size, 0, none⟩) 4097 4097) (w.alloc (.cells (madeCells #[.int .u32 0] 4097) 26)) := fun _ => by kernel_rfl
          have HXX := Lib.hid (Ext.trans _ _ _ HX5.out HX.out)
          have HM0 := Lib.hid (Row.made 26 .u32 4097 wr (by decide))
          have HM1 := Lib.hid (show Ext wr (wr.alloc (.cells (madeCells #[.int .u32 0] 4097) 26)) from (Below.refl _ _).alloc (Nat.le_refl _) _)
          rw [← many_zero] at HM0
          go_wp2_with fail
          generalize wr.alloc (.cells (madeCells #[.int .u32 0] 4097) 26) = wm at HM0 HM1 ⊢
          have HMG := Lib.hid (Nat.le_refl wr.heap.size)
          generalize hgm : wr.heap.size = gm at HM0 ⊢
          have hst0 : Step (fun _ => False) (fun b => b = gm) w wm := ⟨Keep.of_below (Ext.trans _ _ _ HXX.out HM1.out), fun k hk => .inr (by rw [hk, ← hgm]; exact HXX.out.size)⟩
          have HS0 := Lib.hid hst0
          clear hst0 hgm
          go_loopw [107] (fun v w' => ∃ (n : Nat) (S' : Nat → Prop), n ≤ 4097 ∧ v = .int .i64 n ∧ Row 26 .u32 (.slice (some ⟨gm, 0, none⟩) 4097 4097) (manyL n) w' S' ∧ Step (fun _ => False) S' w w') (fun v _ => 4097 - (intOf v).toNat)
          case atStart => exact ⟨0, _, by omega, rfl, HM0.out, HS0.out⟩
          case round =>
            obtain ⟨n, S2, hn, rfl, hw, hst⟩ := hrel
            have HW := Lib.hid hw
            have ST := Lib.hid hst
            clear hw hst
            by_cases hlt9 : n < 4097
            · obtain ⟨cn, fn⟩ := row_at HW.out n (by rw [manyL_len (by omega)]; exact hlt9)
              have hn4 : (n : Int) < 4097 := by omega
              have hset := HW.out.set n n
              rw [← manyL_step hlt9] at hset
              have HSET := Lib.hid hset
              clear hset
              have hwr : IntKind.u32.wrap (n : Int) = n := by simp [IntKind.wrap, IntKind.bits, IntKind.signed]; omega
              generalize (manyL n).getD n 0 = z0 at cn
              go_wp2_with fail
              go_roundw
              case rel => exact ⟨n + 1, S2, by omega, by go_num, HSET.out.1, ST.out.trans HSET.out.2⟩
              case measure => simp [intOf]; omega
            · obtain rfl : n = 4097 := by omega
              obtain ⟨T, hT, hTl, hTa⟩ := many_cons
              rw [hT] at HW
              have HEm := Lib.hid (show Ext w wr from ST.out.keep.below (Nat.le_refl _) (fun _ _ x => x))
              have hr0 := HW.out.readsAt
              have hl0 : (0 :: T).length = 4097 := by rw [List.length_cons, hTl]
              have HRT := Lib.hid (show Reads wr .u32 (some ⟨gm, 1, none⟩) T from by
                have := reads_tail hr0 (d := 4097) (by rw [hl0]; exact Nat.le_refl _)
                rwa [if_neg (by decide), Nat.zero_add] at this)
              have HR0 := Lib.hid hr0
              have HO1 := Lib.hid (show ofL [] (0 :: T) = none by rw [ofL_asc (0 :: T) [] hTa (by simp), if_neg (by rw [hl0]; simp)])
              have HO2 := Lib.hid (show ofL [] T = some T by
                rw [ofL_asc T [] (by rw [List.nil_append]; exact (List.pairwise_cons.1 hTa).2) (by simp), if_pos (by rw [hTl]; simp), List.nil_append])
              have HCM := Lib.hid (show checkS (0 :: T) = 7 from checkS_many (by rw [hl0]; decide))
              clear hr0 hT hTa
              go_wp2_with fail
              have h1 := of_c (some ⟨gm, 0, none⟩) 4097 (0 :: T) wr HR0.out (by omega) none HO1.out
              rw [hl0] at h1
              refine h1.mono ?_
              clear h1
              rintro e w2 ⟨rfl, hx2⟩
              have HEm2 := Lib.hid (Ext.trans _ _ _ HEm.out hx2)
              have HRT2 := Lib.hid (hx2.reads HRT.out)
              have HR2 := Lib.hid (hx2.reads HR0.out)
              clear hx2
              go_wp2_with fail
              have h2 := of_c (some ⟨gm, 1, none⟩) 4096 T w2 HRT2.out (by omega) (some T) HO2.out
              rw [hTl] at h2
              refine h2.mono ?_
              clear h2
              rintro e w3 ⟨A', c', S', rfl, hrow, hst⟩
              have hx3 : Ext w2 w3 := hst.keep.below (Nat.le_refl _) (fun _ _ x => x)
              have HEm3 := Lib.hid (Ext.trans _ _ _ HEm2.out hx3)
              have HR3 := Lib.hid (hx3.reads HR2.out)
              clear hx3 hrow hst
              go_wp2_with fail
              have h3 := check_c (some ⟨gm, 0, none⟩) 4097 (0 :: T) w3 HR3.out (by omega)
              rw [hl0, HCM.out] at h3
              refine h3.mono ?_
              clear h3
              rintro e w4 ⟨rfl, hx4⟩
              have HEm4 := Lib.hid (Ext.trans _ _ _ HEm3.out hx4)
              clear hx4
              go_wp2_with fail
              go_ret
              exact ⟨rfl, HEm4.out⟩
end Go.Proofs.Ytolhhbnamldghaa.Set
