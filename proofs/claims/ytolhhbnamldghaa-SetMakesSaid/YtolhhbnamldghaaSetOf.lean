/- Of: numbers in any order as a set; what it answers, by insertion. -/
import Derived.Test.YtolhhbnamldghaaProg
import Derived.Test.YtolhhbnamldghaaRelyC
import Derived.Laws.CopyOwn
import Derived.Deep.RegionLaw
import Derived.WalkMore
import Derived.Deep.QuietTactic
import Derived.BigQuiet
import Derived.LoopTactic
import Derived.Outline
namespace Go.Proofs.Ytolhhbnamldghaa.Set
open Go.RowKit Go.Proofs.Ytolhhbnamldghaa.Own Go.Proofs.Ytolhhbnamldghaa.Rely
attribute [local go_sem] max_ints min_ints

theorem info_u32 : (Try.prog.info? 26).map (fun i => (i.zero, i.size, i.bytes)) = some (some (.int .u32 0), 1, 4) := by kernel_rfl
theorem size_u32 : (Try.prog.info? 26).map (·.size) = some 1 := by kernel_rfl
/-- Where a number goes: looked for from behind; none: it is there. -/
def findD (s : List Int) (n : Int) : Nat → Option Nat
  | 0 => some 0
  | at_ + 1 => if n ≤ s.getD at_ 0 then (if s.getD at_ 0 = n then none else findD s n at_) else some (at_ + 1)
theorem findD_le (s : List Int) (n : Int) : ∀ k j, findD s n k = some j → j ≤ k
  | 0, j, h => by injection h; omega
  | k + 1, j, h => by
    unfold findD at h
    split at h
    · split at h
      · cases h
      · exact Nat.le_succ_of_le (findD_le s n k j h)
    · injection h; omega
def ins (s : List Int) (j : Nat) (n : Int) : List Int := s.take j ++ n :: s.drop j
theorem ins_length (s : List Int) (j : Nat) (n : Int) : (ins s j n).length = s.length + 1 := by
  simp [ins]; omega
/-- One by one. -/
def ofL : List Int → List Int → Option (List Int)
  | s, [] => some s
  | s, n :: l => match findD s n s.length with
    | none => ofL s l
    | some j => if s.length = 4096 then none else ofL (ins s j n) l

theorem splice_ins (s : List Int) (j : Nat) (n : Int) (hj : j ≤ s.length) : (splice (s ++ [0]) (j + 1) (s.drop j)).set j n = ins s j n := by
  unfold splice ins
  have h1 : (s ++ [0]).drop (j + 1 + (s.drop j).length) = [] := by apply List.drop_eq_nil_of_le; simp; omega
  rw [h1, List.append_nil]
  have h2 : (s ++ [0]).take (j + 1) = s.take j ++ [(s ++ [0]).getD j 0] := by
    rw [List.take_succ_eq_append_getElem (by simp; omega), List.take_append_of_le_length hj]
    simp [List.getD_eq_getElem?_getD, List.getElem?_eq_getElem (show j < (s ++ [0]).length by simp; omega)]
  rw [h2, List.append_assoc, List.set_append_right _ _ (by simp; omega)]
  simp [Nat.min_eq_left hj]

theorem Row.reads' {e : TypeId} {k : IntKind} {A : Option Addr} {n c : Nat} {xs : List Int} {w : World} {S : Nat → Prop} (h : Row e k (.slice A n c) xs w S) : Reads w k A xs := by
  obtain ⟨A2, c2, e2, _, h8, _⟩ := h.reads
  injection e2 with e3
  rw [e3]; exact h8
theorem row_some {e : TypeId} {k : IntKind} {A : Option Addr} {n c : Nat} {xs : List Int} {w : World} {S : Nat → Prop} (h : Row e k (.slice A n c) xs w S) (hn : 0 < n) : ∃ g, A = some ⟨g, 0, none⟩ := by
  rcases h.1.2 with ⟨q, _⟩ | ⟨g', cap', cur, q, _⟩
  · injection q with _ q; omega
  · injection q with q1; exact ⟨g', q1⟩
theorem row_fresh {e : TypeId} {k : IntKind} {g n c : Nat} {xs : List Int} {w w' : World} {S : Nat → Prop} (h : Row e k (.slice (some ⟨g, 0, none⟩) n c) xs w' S) (hst : Step (fun _ => False) S w w') : w.heap.size ≤ g :=
  (hst.fresh g ((h.2 g).2 rfl)).resolve_left id
/-- A row's block, with other cells in it. -/
theorem row_block {e : TypeId} {k : IntKind} {g n cap : Nat} {xs : List Int} {w : World} {S : Nat → Prop} (h : Row e k (.slice (some ⟨g, 0, none⟩) n cap) xs w S) :
    n = xs.length ∧ n ≤ cap ∧ ∃ cur : List Value, w.heap[g]? = some (.cells cur.toArray e (0, 0)) ∧ cur.length = cap ∧ cur.take n = xs.map (Value.int k) ∧ cap ≤ maxLen := by
  obtain ⟨h1, h2⟩ := h
  rcases h1.2 with ⟨q, _⟩ | ⟨g', cap', cur, q, _, hg, hn, hm, hs, ht⟩
  · cases q
  · injection q with q1 q2 q3
    injection q1 with q1
    injection q1 with q1
    subst q1 q3
    have hl := h1.1
    simp only [List.length_map, Nat.mul_one] at hl hs ht
    subst q2
    exact ⟨rfl, hn, cur.toList, hg, by simpa using hs, ht, hm⟩
theorem block_row {e : TypeId} {k : IntKind} {g cap : Nat} {xs : List Int} {w : World} {cur : List Value} (hg : w.heap[g]? = some (.cells cur.toArray e (0, 0))) (hn : xs.length ≤ cap) (hc : cur.length = cap) (ht : cur.take xs.length = xs.map (Value.int k)) (hm : cap ≤ maxLen) :
    Row e k (.slice (some ⟨g, 0, none⟩) xs.length cap) xs w (fun b => b = g) :=
  ⟨⟨by simp, .inr ⟨g, cap, cur.toArray, rfl, Nat.zero_le _, hg, hn, hm, by simpa using hc, by simpa using ht⟩⟩, fun b => by simp [Value.ownBlock, eq_comm]⟩
theorem take_splice {α : Type} (cur : List α) (off : Nat) (cs X : List α) (hX : cur.take X.length = X) (hl : off + cs.length = X.length) (hc : X.length ≤ cur.length) : (splice cur off cs).take X.length = splice X off cs := by
  have e1 : X.drop (off + cs.length) = [] := by apply List.drop_eq_nil_of_le; omega
  unfold splice
  rw [e1, List.append_nil]
  have e2 : cur.take off = X.take off := by rw [← hX, List.take_take, Nat.min_eq_left (by omega)]
  rw [e2, ← List.append_assoc, List.take_append_of_le_length (by simp; omega)]
  exact List.take_of_length_le (by simp; omega)

theorem row_src {e : TypeId} {k : IntKind} {g n cap : Nat} {s : List Int} {w : World} {S : Nat → Prop} (h : Row e k (.slice (some ⟨g, 0, none⟩) n cap) (s ++ [0]) w S) (q : Nat) : ∀ j v, ((s.drop q).map (Value.int k))[j]? = some v → w.cell? ⟨g, q + j, none⟩ = some v := by
  intro j v hj
  rw [List.getElem?_map, List.getElem?_drop] at hj
  obtain ⟨x, hx, rfl⟩ := Option.map_eq_some_iff.1 hj
  obtain ⟨hlt, rfl⟩ := List.getElem?_eq_some_iff.1 hx
  obtain ⟨b, o, e, _, hc⟩ := h.readsAt (q + j) (by simp; omega)
  injection e with e
  injection e with e1 e2 _
  subst e1 e2
  rw [Nat.zero_add] at hc
  rw [hc, List.getD_eq_getElem?_getD, List.getElem?_append_left hlt, List.getElem?_eq_getElem hlt]; rfl
theorem cs_len (s : List Int) (q sl dl : Nat) (h1 : sl = s.length + 1 - q) (h2 : dl = s.length - q) : ((s.drop q).map (Value.int .u32)).length = Nat.min sl dl := by
  subst h1 h2
  rw [List.length_map, List.length_drop]
  exact (Nat.min_eq_right (by omega)).symm
theorem dst_pos (s : List Int) (q g c : Nat) (h : 0 < ((s.drop q).map (Value.int .u32)).length) (hc : s.length + 1 ≤ c) : (if c = q + 1 then some (⟨g, 0, none⟩ : Addr) else some ⟨g, q + 1, none⟩) = some ⟨g, q + 1, none⟩ := by
  rw [List.length_map, List.length_drop] at h
  rw [if_neg (by omega)]
theorem row_at {e : TypeId} {k : IntKind} {g n c : Nat} {xs : List Int} {w : World} {S : Nat → Prop} (h : Row e k (.slice (some ⟨g, 0, none⟩) n c) xs w S) (i : Nat) (hi : i < xs.length) : w.cell? ⟨g, i, none⟩ = some (.int k (xs.getD i 0)) ∧ w.frozen? ⟨g, i, none⟩ = false := by
  refine ⟨?_, h.free i⟩
  obtain ⟨b, o, e, _, hc⟩ := h.readsAt i hi
  injection e with e
  injection e with e1 e2 _
  subst e1 e2
  rwa [Nat.zero_add] at hc
theorem src_pos (s : List Int) (m g c : Nat) (hc : s.length + 1 ≤ c) (hm : m + 1 ≤ s.length) : (if c = m + 1 then some (⟨g, 0, none⟩ : Addr) else some ⟨g, m + 1, none⟩) = some ⟨g, m + 1, none⟩ := by
  rw [if_neg (by omega)]
theorem cs_fit (s : List Int) (q : Nat) {c : Nat} {cur : List Value} (hc : s.length + 1 ≤ c) (hl : cur.length = c) (hq : q ≤ s.length := by omega) : q + 1 + ((s.drop q).map (Value.int .u32)).length ≤ cur.length := by
  rw [List.length_map, List.length_drop]; omega
theorem cs_one (s : List Int) (q : Nat) : ∀ v ∈ (s.drop q).map (Value.int .u32), v.oneCell' = true := by
  intro v hv
  obtain ⟨x, _, rfl⟩ := List.mem_map.1 hv
  rfl
theorem splice_map (s : List Int) (q : Nat) (X : List Int) : (splice (s.map (Value.int .u32)) q (X.map (Value.int .u32))) = (splice s q X).map (Value.int .u32) := by
  unfold splice; simp
theorem splice_row {s : List Int} {c : Nat} {cur : List Value} (hct : cur.take (s.length + 1) = (s ++ [0]).map (Value.int .u32)) (hcap : s.length + 1 ≤ c) (hcl : cur.length = c) (hcm : c ≤ maxLen) (q : Nat) (hq : q ≤ s.length) {w : World} {g : Nat}
    (hg : w.heap[g]? = some (.cells (splice cur (q + 1) ((s.drop q).map (Value.int .u32))).toArray 26 (0, 0))) :
    Row 26 .u32 (.slice (some ⟨g, 0, none⟩) (s.length + 1) c) (splice (s ++ [0]) (q + 1) (s.drop q)) w (fun b => b = g) := by
  have hl : (splice (s ++ [0]) (q + 1) (s.drop q)).length = s.length + 1 := by rw [length_splice _ _ _ (by simp; omega)]; simp
  have h1 := block_row (k := .u32) (xs := splice (s ++ [0]) (q + 1) (s.drop q)) hg (cap := c) (by omega) (by rw [length_splice _ _ _ (by simp; omega)]; exact hcl) (by
    rw [hl, ← splice_map]
    have h2 := take_splice cur (q + 1) ((s.drop q).map (Value.int .u32)) ((s ++ [0]).map (Value.int .u32)) (by simpa using hct) (by simp; omega) (by simp; omega)
    simpa using h2) hcm
  rw [hl] at h1
  exact h1
def OfPost (w : World) : Option (List Int) → Ending → World → Prop
  | some s, e, w' => ∃ A' c' S', e = .returned (.tuple #[.slice A' s.length c', .int .i64 0]) ∧ Row 26 .u32 (.slice A' s.length c') s w' S' ∧ Step (fun _ => False) S' w w'
  | none, e, w' => e = .returned (.tuple #[.slice none 0 0, .int .i64 7]) ∧ Ext w w'
set_option maxHeartbeats 4000000 in
set_option maxRecDepth 20000 in
/-- Of's answer: a row of its own, or nothing and 7. -/
theorem of_c (A : Option Addr) (c : Nat) (l : List Int) (w : World) (hr : Reads w .u32 A l) (hl : l.length ≤ 1000000) (R : Option (List Int)) (hR : ofL [] l = R) :
    Calls Try.prog 16 #[.slice A l.length c] w (OfPost w R) := by
  have HR := Lib.hid hr
  have HRR := Lib.hid hR
  have HRN := Lib.hid (Row.nil 26 .u32 w)
  clear hr hR
  go_enter Try.func16, Try.ntmps16
  go_wp2_with fail
  apply wp_scope_straight
  go_wp2_with fail
  apply wp_label
  go_wp2_with fail
  go_loopw [4, 10] (fun v i wr => ∃ (k : Nat) (s : List Int) (S' : Nat → Prop) (An : Option Addr) (cn : Nat), k ≤ l.length ∧ i = .int .i64 k ∧ v = .slice An s.length cn ∧ s.length ≤ 4096 ∧ ofL s (l.drop k) = R ∧ Row 26 .u32 (.slice An s.length cn) s wr S' ∧ Step (fun _ => False) S' w wr) (fun _ i _ => l.length - (intOf i).toNat)
  case atStart => exact ⟨0, [], _, none, 0, by omega, rfl, rfl, by simp, HRR.out, HRN.out, ⟨Keep.refl _ _, fun _ q => .inl q⟩⟩
  case round =>
    obtain ⟨k, s, S', An, cn, hk, rfl, rfl, hs4, hof, hw, hst⟩ := hrel
    have HW := Lib.hid hw
    have ST := Lib.hid hst
    have HOF := Lib.hid hof
    clear hw hst hof
    by_cases hlt : k < l.length
    · obtain ⟨b, o, rfl, hblt, cx⟩ := (HR.out.later (ST.out.keep.below (Nat.le_refl _) (fun _ _ x => x))).at hlt
      have hdr : l.drop k = l.getD k 0 :: l.drop (k + 1) := by rw [List.drop_eq_getElem_cons hlt]; simp [List.getD_eq_getElem?_getD, List.getElem?_eq_getElem hlt]
      have hof := HOF.out
      rw [hdr] at hof
      obtain ⟨n, hn⟩ : ∃ n, l.getD k 0 = n := ⟨_, rfl⟩
      rw [hn] at cx hof
      have HOF2 := Lib.hid hof
      have hk4 : (k : Int) < (l.length : Int) := by omega
      clear hdr hof hn HOF
      go_wp2_with fail
      rename_i J0 hJ0
      go_loopw [7] (fun v w7 => ∃ (q : Nat), q ≤ s.length ∧ v = .int .i64 q ∧ findD s n s.length = findD s n q ∧ w7 = wr) (fun v _ => (intOf v).toNat)
      case atStart => exact ⟨s.length, Nat.le_refl _, rfl, rfl, rfl⟩
      case round =>
        obtain ⟨q, hq, rfl, hfd, rfl⟩ := hrel
        have HFD := Lib.hid hfd
        clear hfd
        have h40 : s.length = 4096 ∨ s.length < 4096 := by omega
        by_cases hgo : 0 < q ∧ n ≤ s.getD (q - 1) 0
        · obtain ⟨hq0, hnx⟩ := hgo
          obtain ⟨m, rfl⟩ : ∃ m, q = m + 1 := ⟨q - 1, by omega⟩
          rw [Nat.add_sub_cancel] at hnx
          obtain ⟨b', o', rfl, hbl', cy⟩ := (Row.reads' HW.out) m (by omega)
          have hfd2 : findD s n (m + 1) = if s.getD m 0 = n then none else findD s n m := by
            show (if n ≤ s.getD m 0 then _ else _) = _
            rw [if_pos hnx]
          have HF2 := Lib.hid hfd2
          clear hfd2
          generalize s.getD m 0 = x at hnx cy HF2
          have hm4 : (m : Int) < (s.length : Int) := by omega
          have hd1 : decide (n ≤ x) = true := by simpa using hnx
          by_cases hxn : x = n
          · subst hxn
            go_wp2_with fail
            have HOF3 : ofL s (l.drop (k + 1)) = R := by
              have h1 := HOF2.out
              unfold ofL at h1
              rw [HFD.out, HF2.out, if_pos rfl] at h1
              exact h1
            exact ⟨⟨k + 1, s, S', _, cn, by omega, by go_num, rfl, hs4, HOF3, HW.out, ST.out⟩, by simp [intOf]; omega⟩
          · have hd2 : (x == n) = false := by simpa using hxn
            go_wp2_with fail
            exact ⟨⟨m, by omega, rfl, by rw [HFD.out, HF2.out, if_neg hxn], trivial⟩, by simp [intOf]⟩
        · have HFQ : findD s n s.length = some q := by
            rw [HFD.out]
            cases q with
            | zero => rfl
            | succ m =>
              show (if n ≤ s.getD m 0 then _ else _) = _
              rw [if_neg (fun h => hgo ⟨by omega, by simpa using h⟩)]
          have HIN := Lib.hid (show (if s.length = 4096 then none else ofL (ins s q n) (l.drop (k + 1))) = R by
            have h1 := HOF2.out
            unfold ofL at h1
            rw [HFQ] at h1
            exact h1)
          clear HFQ HFD HOF2
          have hcase : q = 0 ∨ ∃ m x b' o', q = m + 1 ∧ An = some ⟨b', o', none⟩ ∧ b' < wr.heap.size ∧ wr.cell? ⟨b', o' + m, none⟩ = some (.int .u32 x) ∧ decide (n ≤ x) = false := by
            cases q with
            | zero => exact .inl rfl
            | succ m =>
              obtain ⟨b', o', e1, e2, cy⟩ := (Row.reads' HW.out) m (by omega)
              exact .inr ⟨m, _, b', o', rfl, e1, e2, cy, by simp only [decide_eq_false_iff_not]; exact fun h => hgo ⟨by omega, by simpa using h⟩⟩
          clear hgo
          by_cases h41 : s.length = 4096
          · have HIN2 := Lib.hid (show none = R by have := HIN.out; rwa [if_pos h41] at this)
            have h4b : ((s.length : Int) == 4096) = true := by rw [beq_iff_eq]; omega
            have HXX := Lib.hid (show Ext w wr from ST.out.keep.below (Nat.le_refl _) (fun _ _ x => x))
            rcases hcase with rfl | ⟨m, x, b', o', rfl, rfl, hbl', cy, hd⟩
            · go_wp2_with fail
              go_ret2
              rw [← HIN2.out]
              exact ⟨rfl, HXX.out⟩
            · have hm4 : (m : Int) < (s.length : Int) := by omega
              go_wp2_with fail
              go_ret2
              rw [← HIN2.out]
              exact ⟨rfl, HXX.out⟩
          · have HIN2 := Lib.hid (show ofL (ins s q n) (l.drop (k + 1)) = R by have := HIN.out; rwa [if_neg h41] at this)
            have h4b : ((s.length : Int) == 4096) = false := by rw [beq_eq_false_iff_ne]; omega
            clear HIN
            rcases hcase with rfl | ⟨m, x, b', o', rfl, rfl, hbl', cy, hd⟩
            · go_wp2_with (at_builtin; refine append_lit _ 26 rfl _ _ 25 rfl .u32 4 Try.underlying25 info_u32 (by decide) _ s [0] 1 1 rfl rfl rfl rfl Lcl.emp (Sep.emp_right HW.out) (by simp; omega) ?_; intro A' c' w' S2 h' st'; have H' := Lib.hid (Sep.left_of_emp h'); have ST' := Lib.hid (ST.out.trans st'); clear h' st')
              obtain ⟨g, rfl⟩ := row_some H'.out (by omega)
              obtain ⟨hxx, hcap, cur, hg, hcl, hct, hcm⟩ := row_block H'.out
              clear hxx
              have HGW := Lib.hid (row_fresh H'.out ST'.out)
              have HB4 := Lib.hid (show Below w.heap.size w w' from ST'.out.keep.below (Nat.le_refl _) (fun _ _ x => x))
              have HCT := Lib.hid hct
              have HCL := Lib.hid hcl
              have HCM := Lib.hid hcm
              have HCAP := Lib.hid hcap
              clear hct hcl hcm hcap
              have hcc : ∀ j v, ((s.drop (0)).map (Value.int .u32))[j]? = some v → w'.cell? ⟨g, 0 + j, none⟩ = some v := row_src H'.out (0)
              have HSPR := Lib.hid (splice_ins s (0) n (by omega))
              have HSPL : RowKit.Hid (∀ W : World, W.heap[g]? = some (.cells (splice cur (0 + 1) ((s.drop (0)).map (Value.int .u32))).toArray 26 (0, 0)) → Row 26 .u32 (.slice (some ⟨g, 0, none⟩) (s.length + 1) c') (splice (s ++ [0]) (0 + 1) (s.drop (0))) W (fun b => b = g)) := Lib.hid (fun W hW => splice_row HCT.out HCAP.out HCL.out HCM.out (0) (by omega) hW)
              have hgd : w'.drew.heap[g]? = some (.cells cur.toArray 26 (0, 0)) := hg
              have HGD := Lib.hid hgd
              have HBD : RowKit.Hid (Below w.heap.size w w'.drew) := Lib.hid (Below.drew HB4.out)
              have HPOS : RowKit.Hid (0 < ((s.drop (0)).map (Value.int .u32)).length → (if c' = 1 then some (⟨g, 0, none⟩ : Addr) else some ⟨g, 1, none⟩) = some ⟨g, 0 + 1, none⟩ ∧ ∃ ad, (some (⟨g, 0, none⟩ : Addr)) = some ad ∧ ∀ j v, ((s.drop (0)).map (Value.int .u32))[j]? = some v → w'.drew.cell? (ad.add j) = some v) := Lib.hid (fun h0 => ⟨dst_pos s 0 g c' h0 HCAP.out, _, rfl, fun j v hj => (congrArg w'.drew.cell? ((add_lit g j).trans (by rw [Nat.zero_add]))).trans (hcc j v hj)⟩)
              clear hgd hg hcc
              have hw1 : IntKind.i64.wrap 1 = 1 := by decide
              have hw2 : (1 : Int) ≤ (s.length : Int) + 1 := by omega
              have hw3 : (0 : Int) ≤ (s.length : Int) + 1 := by omega
              go_region_law (refine step_copy_splice rfl (.tmp 44) (.tmp 47) 25 25 rfl 26 Try.underlying25 size_u32 ((if c' = 1 then some (⟨g, 0, none⟩ : Addr) else some ⟨g, 1, none⟩)) ((some (⟨g, 0, none⟩ : Addr))) (s.length) (c' - (0 + 1)) (s.length + 1) (c') (by go_simp) (by go_simp) g (0 + 1) cur 26 HGD.out ((s.drop (0)).map (Value.int .u32)) (cs_len s (0) _ _ (by omega) (by omega)) HPOS.out (cs_fit s (0) HCAP.out HCL.out) (cs_one s (0)) w.heap.size w HBD.out HGW.out ?_; intro w4 hg4 hb4)
              have hrow := HSPL.out w4 hg4.out
              have hst4 : Step (fun _ => False) (fun b => b = g) w w4 := ⟨Keep.of_below hb4, fun k hk => .inr (by rw [hk]; exact HGW.out)⟩
              obtain ⟨hc4, hf4⟩ := row_at hrow (0) (by rw [length_splice _ _ _ (by simp; try omega)]; simp)
              have hset := hrow.set (0) n
              rw [HSPR.out] at hset
              have HSET := Lib.hid hset.1
              have HST5 := Lib.hid (hst4.trans hset.2)
              clear hrow hst4 hset hg4 hb4
              generalize (splice (s ++ [0]) (0 + 1) (s.drop (0))).getD (0) 0 = z at hc4
              have hq1 : (0 : Int) < (s.length : Int) + 1 := by omega
              go_wp2_with fail
              have HQ4 : (ins s (0) n).length ≤ 4096 := by rw [ins_length]; omega
              go_roundw
              case rel => exact ⟨k + 1, ins s (0) n, _, some ⟨g, 0, none⟩, c', by omega, by go_num, by rw [ins_length], HQ4, HIN2.out, by rw [ins_length]; exact HSET.out, HST5.out⟩
              case measure => simp [intOf]; omega
            · have hm4 : (m : Int) < (s.length : Int) := by omega
              go_wp2_with (at_builtin; refine append_lit _ 26 rfl _ _ 25 rfl .u32 4 Try.underlying25 info_u32 (by decide) _ s [0] 1 1 rfl rfl rfl rfl Lcl.emp (Sep.emp_right HW.out) (by simp; omega) ?_; intro A' c' w' S2 h' st'; have H' := Lib.hid (Sep.left_of_emp h'); have ST' := Lib.hid (ST.out.trans st'); clear h' st')
              obtain ⟨g, rfl⟩ := row_some H'.out (by omega)
              obtain ⟨hxx, hcap, cur, hg, hcl, hct, hcm⟩ := row_block H'.out
              clear hxx
              have HGW := Lib.hid (row_fresh H'.out ST'.out)
              have HB4 := Lib.hid (show Below w.heap.size w w' from ST'.out.keep.below (Nat.le_refl _) (fun _ _ x => x))
              have HCT := Lib.hid hct
              have HCL := Lib.hid hcl
              have HCM := Lib.hid hcm
              have HCAP := Lib.hid hcap
              clear hct hcl hcm hcap
              have hcc : ∀ j v, ((s.drop (m + 1)).map (Value.int .u32))[j]? = some v → w'.cell? ⟨g, m + 1 + j, none⟩ = some v := row_src H'.out (m + 1)
              have HSPR := Lib.hid (splice_ins s (m + 1) n (by omega))
              have HSPL : RowKit.Hid (∀ W : World, W.heap[g]? = some (.cells (splice cur (m + 1 + 1) ((s.drop (m + 1)).map (Value.int .u32))).toArray 26 (0, 0)) → Row 26 .u32 (.slice (some ⟨g, 0, none⟩) (s.length + 1) c') (splice (s ++ [0]) (m + 1 + 1) (s.drop (m + 1))) W (fun b => b = g)) := Lib.hid (fun W hW => splice_row HCT.out HCAP.out HCL.out HCM.out (m + 1) (by omega) hW)
              have hgd : w'.drew.heap[g]? = some (.cells cur.toArray 26 (0, 0)) := hg
              have HGD := Lib.hid hgd
              have HBD : RowKit.Hid (Below w.heap.size w w'.drew) := Lib.hid (Below.drew HB4.out)
              have HPOS : RowKit.Hid (0 < ((s.drop (m + 1)).map (Value.int .u32)).length → (if c' = m + 2 then some (⟨g, 0, none⟩ : Addr) else some ⟨g, m + 2, none⟩) = some ⟨g, m + 1 + 1, none⟩ ∧ ∃ ad, (if c' = m + 1 then some (⟨g, 0, none⟩ : Addr) else some ⟨g, m + 1, none⟩) = some ad ∧ ∀ j v, ((s.drop (m + 1)).map (Value.int .u32))[j]? = some v → w'.drew.cell? (ad.add j) = some v) := Lib.hid (fun h0 => ⟨dst_pos s (m + 1) g c' h0 HCAP.out, _, src_pos s m g c' HCAP.out hq, fun j v hj => (congrArg w'.drew.cell? (add_lit' g (m + 1) j)).trans (hcc j v hj)⟩)
              clear hgd hg hcc
              have hw1 : IntKind.i64.wrap ((m : Int) + 1 + 1) = (m : Int) + 2 := by simp [IntKind.wrap, IntKind.bits, IntKind.signed]; omega
              have hw2 : (m : Int) + 2 ≤ (s.length : Int) + 1 := by omega
              have hw3 : (m : Int) + 1 ≤ (s.length : Int) + 1 := by omega
              have hw4 : ((m : Int) + 2).toNat = m + 2 := by omega
              have hw5 : ((m : Int) + 1).toNat = m + 1 := by omega
              have hw6 : (0 : Int) ≤ (m : Int) + 2 := by omega
              have hw7 : (0 : Int) ≤ (m : Int) + 1 := by omega
              go_region_law (refine step_copy_splice rfl (.tmp 44) (.tmp 47) 25 25 rfl 26 Try.underlying25 size_u32 ((if c' = m + 2 then some (⟨g, 0, none⟩ : Addr) else some ⟨g, m + 2, none⟩)) ((if c' = m + 1 then some (⟨g, 0, none⟩ : Addr) else some ⟨g, m + 1, none⟩)) (s.length - (m + 1)) (c' - (m + 1 + 1)) (s.length - m) (c' - (m + 1)) (by go_simp) (by go_simp) g (m + 1 + 1) cur 26 HGD.out ((s.drop (m + 1)).map (Value.int .u32)) (cs_len s (m + 1) _ _ (by omega) (by omega)) HPOS.out (cs_fit s (m + 1) HCAP.out HCL.out) (cs_one s (m + 1)) w.heap.size w HBD.out HGW.out ?_; intro w4 hg4 hb4)
              have hrow := HSPL.out w4 hg4.out
              have hst4 : Step (fun _ => False) (fun b => b = g) w w4 := ⟨Keep.of_below hb4, fun k hk => .inr (by rw [hk]; exact HGW.out)⟩
              obtain ⟨hc4, hf4⟩ := row_at hrow (m + 1) (by rw [length_splice _ _ _ (by simp; omega)]; simp; omega)
              have hset := hrow.set (m + 1) n
              rw [HSPR.out] at hset
              have HSET := Lib.hid hset.1
              have HST5 := Lib.hid (hst4.trans hset.2)
              clear hrow hst4 hset hg4 hb4
              generalize (splice (s ++ [0]) (m + 1 + 1) (s.drop (m + 1))).getD (m + 1) 0 = z at hc4
              have hq1 : (m : Int) + 1 < (s.length : Int) + 1 := by omega
              go_wp2_with fail
              have HQ4 : (ins s (m + 1) n).length ≤ 4096 := by rw [ins_length]; omega
              go_roundw
              case rel => exact ⟨k + 1, ins s (m + 1) n, _, some ⟨g, 0, none⟩, c', by omega, by go_num, by rw [ins_length], HQ4, HIN2.out, by rw [ins_length]; exact HSET.out, HST5.out⟩
              case measure => simp [intOf]; omega
    · obtain rfl : k = l.length := by omega
      have hof := HOF.out
      rw [List.drop_length] at hof
      obtain rfl : some s = R := hof
      go_wp2_with fail
      go_ret2
      exact ⟨An, cn, S', rfl, HW.out, ST.out⟩
end Go.Proofs.Ytolhhbnamldghaa.Set
