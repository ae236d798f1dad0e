/- For the index's checks: an entry set in a row of one's own, one behind it, items behind an empty one; what Check says of them. -/
import Derived.Test.YtfpeeilenocaoaaIdxMake
import Derived.Test.YtfpeeilenocaoaaIdxAwk
namespace Go.Proofs.Ytfpeeilenocaoaa.Idx
open Go.RowKit Go.Proofs.Ytfpeeilenocaoaa.Own Go.Proofs.Ytfpeeilenocaoaa.Rely Go.Proofs.Ytfpeeilenocaoaa.Crc Go.Proofs.Ytfpeeilenocaoaa.Frame
attribute [local go_sem] max_ints min_ints

/-! ### what Check says -/
theorem chkL_set : ∀ (l : List Ent) (p : Option Ent) (i : Nat) (y : Ent) (n : Nat), chkL p l = 0 → i < l.length → n ≠ 0 →
    chk1 (if i = 0 then p else some (l.getD (i - 1) e0)) y = n → chkL p (l.set i y) = n := by
  intro l
  induction l with
  | nil => intro p i y n _ hi; exact absurd hi (Nat.not_lt_zero i)
  | cons x l ih =>
    intro p i y n h hi hn hy
    obtain ⟨h1, h2⟩ := chkL_cons h
    cases i with
    | zero =>
      rw [if_pos rfl] at hy
      rw [List.set_cons_zero]
      unfold chkL
      rw [hy, if_neg hn]
    | succ i =>
      rw [if_neg (by omega)] at hy
      rw [List.set_cons_succ]
      unfold chkL
      rw [h1, if_pos rfl]
      refine ih (some x) i y n h2 (by simpa using hi) hn ?_
      cases i with
      | zero => simpa using hy
      | succ i => simpa using hy
theorem chkL_app : ∀ (l : List Ent) (p : Option Ent) (y : Ent) (n : Nat), chkL p l = 0 → n ≠ 0 →
    chk1 (if l.length = 0 then p else some (l.getD (l.length - 1) e0)) y = n → chkL p (l ++ [y]) = n := by
  intro l
  induction l with
  | nil =>
    intro p y n _ hn hy
    rw [if_pos (show ([] : List Ent).length = 0 from rfl)] at hy
    rw [List.nil_append]
    unfold chkL
    rw [hy, if_neg hn]
  | cons x l ih =>
    intro p y n h hn hy
    obtain ⟨h1, h2⟩ := chkL_cons h
    rw [if_neg (by simp)] at hy
    rw [List.cons_append]
    unfold chkL
    rw [h1, if_pos rfl]
    refine ih (some x) y n h2 hn ?_
    cases l with
    | nil => simpa using hy
    | cons z l => simpa using hy
theorem check_set {l : List Ent} {i : Nat} {y : Ent} {n : Nat} (h : checkX l = 0) (hi : i < l.length) (hn : n ≠ 0) (hy : chk1 (prev l i) y = n) : checkX (l.set i y) = n := by
  unfold checkX at h ⊢
  split at h
  · cases h
  · rw [List.length_set, if_neg ‹_›]
    exact chkL_set l none i y n h hi hn hy
theorem check_app {l : List Ent} {y : Ent} {n : Nat} (h : checkX l = 0) (hl : 0 < l.length) (hl2 : l.length ≤ 999) (hn : n ≠ 0) (hy : chk1 (some (l.getD (l.length - 1) e0)) y = n) : checkX (l ++ [y]) = n := by
  unfold checkX at h ⊢
  split at h
  · cases h
  · rw [if_neg (by rw [List.length_append]; simp; omega)]
    exact chkL_app l none y n h hn (by rw [if_neg (by omega)]; exact hy)
theorem chk1_name {p : Option Ent} {nm : List Int} {a s : Int} (h : nm.length < 1 ∨ 255 < nm.length) : chk1 p (nm, a, s) = 12 := if_pos h
theorem chk1_range {p : Option Ent} {nm : List Int} {a s : Int} (h : 1 ≤ nm.length ∧ nm.length ≤ 255) (k : a < 0 ∨ 1048576 < a ∨ s < 1 ∨ 1048576 < s) : chk1 p (nm, a, s) = 2 := by
  unfold chk1
  rw [if_neg (show ¬ (nm.length < 1 ∨ 255 < nm.length) by omega), if_pos k]
theorem chk1_order {q : Ent} {nm : List Int} {a s : Int} (h : 1 ≤ nm.length ∧ nm.length ≤ 255) (k : 0 ≤ a ∧ a ≤ 1048576 ∧ 1 ≤ s ∧ s ≤ 1048576) (hl : less q.1 nm = false) : chk1 (some q) (nm, a, s) = 8 := by
  unfold chk1
  rw [if_neg (show ¬ (nm.length < 1 ∨ 255 < nm.length) by omega), if_neg (show ¬ (a < 0 ∨ 1048576 < a ∨ s < 1 ∨ 1048576 < s) by omega)]
  simp [hl]
theorem chk1_form {q : Ent} {nm : List Int} {a s : Int} (h : 1 ≤ nm.length ∧ nm.length ≤ 255) (k : 0 ≤ a ∧ a ≤ 1048576 ∧ 1 ≤ s ∧ s ≤ 1048576) (hl : less q.1 nm = true) (hf : a ≠ q.2.1 + q.2.2) : chk1 (some q) (nm, a, s) = 4 := by
  unfold chk1
  rw [if_neg (show ¬ (nm.length < 1 ∨ 255 < nm.length) by omega), if_neg (show ¬ (a < 0 ∨ 1048576 < a ∨ s < 1 ∨ 1048576 < s) by omega)]
  simp [hl, hf]
theorem less_more (nm ys : List Int) (h : ys ≠ []) : less nm (nm ++ ys) = true := by
  refine (less_iff _ _).2 ?_
  rw [strOfNums_toList, strOfNums_toList, List.map_append]
  cases ys with
  | nil => exact absurd rfl h
  | cons y ys =>
    clear h
    induction (nm.map fun n => UInt8.ofNat n.toNat) with
    | nil => exact List.nil_lt_cons _ _
    | cons x l ih => exact List.cons_lt_cons_iff.2 (.inr ⟨rfl, ih⟩)

set_option maxHeartbeats 16000000 in
set_option maxRecDepth 20000 in
theorem check_many (A : Option Addr) (c n : Nat) (w : World) (hn : 1000 < n) :
    Calls Try.prog 24 #[.slice A n c] w fun e w' => e = .returned (.int .i64 7) ∧ Ext w w' := by
  go_enter Try.func24, Try.ntmps24
  have g1 : decide ((1000 : Int) < (n : Int)) = true := by simp; omega
  go_wp2_with fail
  go_ret
  exact ⟨rfl, Ext.refl _⟩

/-! ### a row of entries, written -/
theorem flat_set : ∀ (l : List Ent) (i j : Nat) (u : Value) (y : Ent), i < l.length → j < 3 → entC y = (entC (l.getD i e0)).set j u → (l.flatMap entC).set (i * 3 + j) u = (l.set i y).flatMap entC := by
  intro l
  induction l with
  | nil => intro i j u y hi; exact absurd hi (Nat.not_lt_zero i)
  | cons x l ih =>
    intro i j u y hi hj hy
    have hl : (entC x).length = 3 := rfl
    cases i with
    | zero =>
      rw [List.set_cons_zero, List.flatMap_cons, List.flatMap_cons, Nat.zero_mul, Nat.zero_add, List.set_append_left _ _ (by rw [hl]; omega)]
      rw [hy]; rfl
    | succ i =>
      rw [List.set_cons_succ, List.flatMap_cons, List.flatMap_cons, List.set_append_right _ _ (by rw [hl]; omega), hl, show (i + 1) * 3 + j - 3 = i * 3 + j by omega, ih i j u y (by simpa using hi) hj (by simpa using hy)]
theorem RowE.form {v : Value} {l : List Ent} {w : World} {S : Nat → Prop} (h : RowE v l w S) (hl : 0 < l.length) : ∃ g c, v = .slice (some ⟨g, 0, none⟩) l.length c ∧ l.length ≤ c ∧ c ≤ 9223372036854775807 ∧ g < w.heap.size ∧ ∀ b, S b ↔ b = g := by
  rcases h.1.2 with ⟨rfl, hn⟩ | ⟨g, cap, cur, rfl, _, _, hnc, hcm, _⟩
  · omega
  · exact ⟨g, cap, rfl, hnc, hcm, (h.1.lt g rfl).2, fun b => (h.2 b).trans (by simp [Value.ownBlock, eq_comm])⟩
theorem RowE.set {g c : Nat} {l : List Ent} {w : World} {S : Nat → Prop} (h : RowE (.slice (some ⟨g, 0, none⟩) l.length c) l w S) (i j : Nat) (hi : i < l.length) (hj : j < 3) (u : Value) (y : Ent) (hy : entC y = (entC (l.getD i e0)).set j u) :
    RowE (.slice (some ⟨g, 0, none⟩) (l.set i y).length c) (l.set i y) (w.setCell ⟨g, i * 3 + j, none⟩ u) S ∧ Keep S w (w.setCell ⟨g, i * 3 + j, none⟩ u) := by
  have hs := World.ownsRow.stored h.1 (i * 3 + j) u
  refine ⟨⟨?_, h.2⟩, (Keep.refl S w).setCell (fun _ => (h.2 g).2 rfl) _⟩
  have := hs.1
  rw [flat_set l i j u y hi hj hy] at this
  rwa [List.length_set]
theorem RowE.free {g n c : Nat} {l : List Ent} {w : World} {S : Nat → Prop} (h : RowE (.slice (some ⟨g, 0, none⟩) n c) l w S) (i : Nat) : w.frozen? ⟨g, i, none⟩ = false := by
  rcases h.1.2 with ⟨h', _⟩ | ⟨g', cap', cur, h', _, hh, _⟩
  · cases h'
  · have : g = g' := by injection h' with h'; injection h' with h'; injection h' with h'
    subst this
    exact frozen_of_row w g i cur _ hh
/-- append(x, y)'s run. -/
theorem run_append_ent {P : Program} (w : World) (t ty : TypeId) (z : Value) (bytes : Nat) (ht : P.underlying t = some (.slice 55)) (hinfo : (P.info? 55).map (fun i => (i.zero, i.size, i.bytes)) = some (some z, 3, bytes)) (hzs : z.cells.size = 3) (hb0 : 0 < bytes)
    (v : Value) (l : List Ent) (y : Ent) {S : Nat → Prop} (h : RowE v l w S) (p : Nat) (hnews : ∀ j u, (entC y)[j]? = some u → w.cell? ⟨p, j, none⟩ = some u) (hl : (l.length + 1) * bytes ≤ 140737488355328) :
    ∃ A' c' w', (Builtin.append_ #[t, t] ty #[v, .slice (some ⟨p, 0, none⟩) 1 1]).run P w = .ok (.slice A' (l ++ [y]).length c') w' ∧ RowE (.slice A' (l ++ [y]).length c') (l ++ [y]) w' (fun b => (Value.slice A' (l ++ [y]).length c').ownBlock = some b) ∧ Keep S w w' := by
  obtain ⟨i0, hi, hzz⟩ := Option.map_eq_some_iff.1 hinfo
  simp only [Prod.mk.injEq] at hzz
  obtain ⟨hz0, hz1, hz2⟩ := hzz
  have hlen : l.length + 1 ≤ 140737488355328 := Nat.le_trans (Nat.le_mul_of_pos_right _ hb0) hl
  obtain ⟨v1, w2, hr1, h3, h4, h6, h5⟩ := run_append_own_at (P := P) w 0 t ty 55 i0 z 3 bytes ht hi hz0 hz1 hz2 hzs (by omega) v l.length (l.flatMap entC) h.1 ⟨p, 0, none⟩ 1 1 (entC y) (by rfl) (fun j u hu => by rw [add_lit', Nat.zero_add]; exact hnews j u hu)
    (by intro u hu; simp only [entC, List.mem_cons, List.not_mem_nil, or_false] at hu; rcases hu with rfl | rfl | rfl <;> rfl) (by simp only [maxLen]; omega) hl (Nat.zero_le _)
  have hrow : RowE v1 (l ++ [y]) w2 (fun b => v1.ownBlock = some b) := by
    refine ⟨?_, fun _ => Iff.rfl⟩
    rw [List.flatMap_append, List.length_append]
    simpa using h3
  obtain ⟨A', c', rfl, _⟩ := hrow.shape
  exact ⟨A', c', w2, hr1, hrow, (Keep.refl S w).grown h4 (fun q hq _ => (h.2 q).2 hq)⟩

/-! ### items behind an empty one -/
theorem flat4_at (V : Nat → List Value) (hV : ∀ i, (V i).length = 4) : ∀ n i j, i < n → j < 4 → ((List.range n).flatMap V)[i * 4 + j]? = (V i)[j]? := by
  have key : ∀ n, ((List.range n).flatMap V).length = n * 4 := by
    intro n
    induction n with
    | zero => rfl
    | succ n ih => rw [List.range_succ, List.flatMap_append, List.length_append, ih]; simp [hV]; omega
  intro n
  induction n with
  | zero => intro i j hi; exact absurd hi (Nat.not_lt_zero i)
  | succ n ih =>
    intro i j hi hj
    rw [List.range_succ, List.flatMap_append]
    by_cases hin : i < n
    · rw [List.getElem?_append_left (by rw [key]; omega)]
      exact ih i j hin hj
    · obtain rfl : i = n := by omega
      rw [List.getElem?_append_right (by rw [key]; omega), key, show i * 4 + j - i * 4 = j by omega]
      simp
theorem flat4_len (V : Nat → List Value) (hV : ∀ i, (V i).length = 4) (n : Nat) : ((List.range n).flatMap V).length = n * 4 := by
  induction n with
  | zero => rfl
  | succ n ih => rw [List.range_succ, List.flatMap_append, List.length_append, ih]; simp [hV]; omega
theorem info_itm : (Try.prog.info? 61).map (fun i => (i.zero, i.size, i.bytes)) = some (some (.agg #[.int .u8 0, .int .u8 0, .int .u16 0, .slice none 0 0]), 4, 32) := by kernel_rfl
theorem items_two (w1 : World) (A : Option Addr) (c : Nat) (xs : List Itm) (h : ReadsI w1 A xs) (hl : xs.length ≤ 1000) :
    ∃ v1 w2 A2 c2 w3, (Builtin.append_ #[48, 48] 48 #[.slice (some ⟨w1.heap.size, 0, none⟩) 0 0, .slice (some ⟨w1.heap.size + 1, 0, none⟩) 1 1]).run Try.prog
        ((w1.alloc (.cells #[] 61)).alloc (.cells #[.int .u8 0, .int .u8 0, .int .u16 0, .slice none 0 0] 61)) = .ok v1 w2 ∧
      (Builtin.append_ #[48, 48] 48 #[v1, .slice A xs.length c]).run Try.prog w2 = .ok (.slice A2 (xs.length + 1) c2) w3 ∧ Ext w1 w3 ∧ ReadsI w3 A2 (t0 :: xs) := by
  obtain ⟨i0, hi, hzz⟩ := Option.map_eq_some_iff.1 info_itm
  simp only [Prod.mk.injEq] at hzz
  obtain ⟨hz0, hz1, hz2⟩ := hzz
  obtain ⟨wa, hwa⟩ : ∃ wa, w1.alloc (.cells #[] 61) = wa := ⟨_, rfl⟩
  have hxa : Ext w1 wa := by rw [← hwa]; exact (Below.refl _ _).alloc (Nat.le_refl _) _
  have hza : wa.heap.size = w1.heap.size + 1 := by rw [← hwa]; simp
  have hown0 : wa.ownsRow 0 61 4 (.slice (some ⟨w1.heap.size, 0, none⟩) 0 0) 0 [] := by
    have := World.ownsRow_lit (base := 0) (e := 61) (size := 4) w1 #[] 0 (Nat.zero_le _) (by simp [maxLen]) (by simp)
    rw [← hwa]; simpa using this
  rw [hwa, ← hza]
  obtain ⟨wb, hwb⟩ : ∃ wb, wa.alloc (.cells #[.int .u8 0, .int .u8 0, .int .u16 0, .slice none 0 0] 61) = wb := ⟨_, rfl⟩
  have hxb : Ext wa wb := by rw [← hwb]; exact (Below.refl _ _).alloc (Nat.le_refl _) _
  have hnb := heap_alloc_new wa (.cells #[.int .u8 0, .int .u8 0, .int .u16 0, .slice none 0 0] 61)
  rw [hwb] at hnb ⊢
  have hown1 := owns_keep (w' := wb) hown0 (fun k hk => by
    have hk' : w1.heap.size = k := by simpa [Value.ownBlock] using hk
    exact hxb.block k (by omega))
  obtain ⟨v1, w2, hr1, ho2, hg2, _, hb2⟩ := run_append_own_at (P := Try.prog) wb 0 48 48 61 i0 _ 4 32 Try.underlying48 hi hz0 hz1 hz2 rfl (by omega) _ 0 [] hown1 ⟨wa.heap.size, 0, none⟩ 1 1 [.int .u8 0, .int .u8 0, .int .u16 0, .slice none 0 0] rfl
    (fun j u hu => by rw [add_lit', cell_of_row _ _ _ _ _ _ hnb, Nat.zero_add]; simpa using hu) (by intro u hu; simp only [List.mem_cons, List.not_mem_nil, or_false] at hu; rcases hu with rfl | rfl | rfl | rfl <;> rfl) (by decide) (by decide) (Nat.zero_le _)
  have hk2 : Keep (fun _ => False) w1 w2 := (Keep.of_below (Ext.trans _ _ _ hxa hxb)).grown hg2 (fun k hk hlt => by
    have hk' : w1.heap.size = k := by simpa [Value.ownBlock] using hk
    omega)
  have hx2 : Ext w1 w2 := hk2.below (Nat.le_refl _) (fun _ _ => id)
  have hb2' : ∀ k, v1.ownBlock = some k → w1.heap.size ≤ k := by
    intro k hk
    rcases hb2 with e | e
    · rw [e] at hk; simp only [Value.ownBlock, Option.some.injEq] at hk; omega
    · rw [e] at hk; simp only [Option.some.injEq] at hk; have := hxb.size; omega
  rw [List.nil_append] at ho2
  -- the second
  have fin : ∀ (V : Nat → List Value) (v' : Value) (w3 : World), (∀ i, i < xs.length → ∃ A3 c3, V i = [.int .u8 (xs.getD i t0).1, .int .u8 (xs.getD i t0).2.1, .int .u16 (xs.getD i t0).2.2.1, .slice A3 (xs.getD i t0).2.2.2.length c3] ∧ Reads w1 .u8 A3 (xs.getD i t0).2.2.2 ∧ (xs.getD i t0).2.2.2.length ≤ c3 ∧ c3 ≤ 9223372036854775807) → (∀ i, (V i).length = 4) →
      w3.ownsRow 0 61 4 v' (0 + 1 + xs.length) ([.int .u8 0, .int .u8 0, .int .u16 0, .slice none 0 0] ++ (List.range xs.length).flatMap V) → Ext w1 w3 →
      ∃ A2 c2, v' = .slice A2 (xs.length + 1) c2 ∧ Ext w1 w3 ∧ ReadsI w3 A2 (t0 :: xs) := by
    intro V v' w3 hV hV4 ho hx3
    rcases ho.2 with ⟨_, hn⟩ | ⟨g, cap, cur, rfl, _, hg, hnc, hcm, _⟩
    · omega
    · refine ⟨some ⟨g, 0, none⟩, cap, by rw [show 0 + 1 + xs.length = xs.length + 1 by omega], hx3, fun i hi => ?_⟩
      have hcell : ∀ q u, ([Value.int .u8 0, .int .u8 0, .int .u16 0, .slice none 0 0] ++ (List.range xs.length).flatMap V)[q]? = some u → w3.cell? ⟨g, 0 + q, none⟩ = some u := by
        intro q u hu
        have hc := ho.cells (g := g) rfl q u hu
        rwa [add_lit'] at hc
      have hgl := (ho.lt g rfl).2
      cases i with
      | zero =>
        exact ⟨g, 0, none, 0, rfl, hgl, hcell 0 _ rfl, hcell 1 _ rfl, hcell 2 _ rfl, hcell 3 _ rfl, (fun k hk => absurd hk (Nat.not_lt_zero k)), Nat.le_refl _, by omega⟩
      | succ i =>
        have hi' : i < xs.length := by simpa using hi
        obtain ⟨A3, c3, e, hr, hc, hc2⟩ := hV i hi'
        have at_ : ∀ j u, j < 4 → (V i)[j]? = some u → w3.cell? ⟨g, 0 + (i + 1) * 4 + j, none⟩ = some u := by
          intro j u hj hu
          have := hcell ((i + 1) * 4 + j) u (by
            rw [List.getElem?_append_right (by simp; omega), show (i + 1) * 4 + j - [Value.int .u8 0, .int .u8 0, .int .u16 0, .slice none 0 0].length = i * 4 + j by simp; omega, flat4_at V hV4 _ i j hi' hj]
            exact hu)
          rw [show 0 + (i + 1) * 4 + j = 0 + ((i + 1) * 4 + j) by omega]
          exact this
        refine ⟨g, 0, A3, c3, rfl, hgl, ?_, ?_, ?_, ?_, hx3.reads ?_, ?_, hc2⟩
        · exact at_ 0 _ (by omega) (by rw [e]; simp)
        · exact at_ 1 _ (by omega) (by rw [e]; simp)
        · exact at_ 2 _ (by omega) (by rw [e]; simp)
        · exact at_ 3 _ (by omega) (by rw [e]; simp)
        · simpa using hr
        · simpa using hc
  have key : ∀ i, i < xs.length → ∃ cs : List Value, cs.length = 4 ∧ ∃ A3 c3, cs = [.int .u8 (xs.getD i t0).1, .int .u8 (xs.getD i t0).2.1, .int .u16 (xs.getD i t0).2.2.1, .slice A3 (xs.getD i t0).2.2.2.length c3] ∧ (Reads w1 .u8 A3 (xs.getD i t0).2.2.2 ∧ (xs.getD i t0).2.2.2.length ≤ c3 ∧ c3 ≤ 9223372036854775807) ∧
      ∃ b o, A = some ⟨b, o, none⟩ ∧ ∀ j u, cs[j]? = some u → w2.cell? ⟨b, o + i * 4 + j, none⟩ = some u := by
    intro i hi
    obtain ⟨b, o, A3, c3, e, _, h0, h1, h2, h3, h4, h5, h6⟩ := h i hi
    replace h0 := hx2.cell h0
    replace h1 := hx2.cell h1
    replace h2 := hx2.cell h2
    replace h3 := hx2.cell h3
    refine ⟨_, rfl, A3, c3, rfl, ⟨h4, h5, h6⟩, b, o, e, fun j u hu => ?_⟩
    match j, hu with
    | 0, hu => simpa [← Option.some.inj hu] using h0
    | 1, hu => simpa [← Option.some.inj hu] using h1
    | 2, hu => simpa [← Option.some.inj hu] using h2
    | 3, hu => simpa [← Option.some.inj hu] using h3
  haveI : Inhabited (List Value) := ⟨[]⟩
  obtain ⟨V0, hV0⟩ := Go.Deep.choose_lt key
  obtain ⟨V, hVe, hV4⟩ : ∃ V : Nat → List Value, (∀ i, i < xs.length → V i = V0 i) ∧ ∀ i, (V i).length = 4 :=
    ⟨fun i => if i < xs.length then V0 i else [undef, undef, undef, undef], fun i hi => if_pos hi, fun i => by
      show (if i < xs.length then V0 i else [undef, undef, undef, undef]).length = 4
      split
      · exact (hV0 i ‹_›).1
      · rfl⟩
  have hVp : ∀ i, i < xs.length → ∃ A3 c3, V i = [.int .u8 (xs.getD i t0).1, .int .u8 (xs.getD i t0).2.1, .int .u16 (xs.getD i t0).2.2.1, .slice A3 (xs.getD i t0).2.2.2.length c3] ∧ Reads w1 .u8 A3 (xs.getD i t0).2.2.2 ∧ (xs.getD i t0).2.2.2.length ≤ c3 ∧ c3 ≤ 9223372036854775807 := by
    intro i hi
    obtain ⟨_, A3, c3, e, hq, _⟩ := hV0 i hi
    exact ⟨A3, c3, by rw [hVe i hi]; exact e, hq⟩
  by_cases hx0 : xs.length = 0
  · have hf := fin V v1 w2 hVp hV4 (by rw [hx0]; simpa using ho2) hx2
    obtain ⟨A2, c2, e, hxx, hri⟩ := hf
    refine ⟨v1, w2, A2, c2, w2, hr1, ?_, hxx, hri⟩
    rw [e, hx0]
    rcases ho2.2 with ⟨e', hn⟩ | ⟨g, cap, cur, e', _, _, hnc, _⟩
    · omega
    · rw [e'] at e
      injection e with e1 _ e3
      subst e1 e3
      cases A <;> simp [Builtin.append_, run_underlying Try.underlying48, sizeOf, typeInfo, hi, Builtin.lenOf, Builtin.firstCells, hnc, storeCells, loadCells, loadCellsFrom]
  · obtain ⟨_, _, _, _, _, b, o, rfl, _⟩ := hV0 0 (by omega)
    have hcells : ∀ j u, ((List.range xs.length).flatMap V)[j]? = some u → w2.cell? ((⟨b, o, none⟩ : Addr).add j) = some u := by
      intro j u hu
      have hj : j < xs.length * 4 := by
        rcases Nat.lt_or_ge j (xs.length * 4) with q | q
        · exact q
        · rw [List.getElem?_eq_none (by rw [flat4_len V hV4]; exact q)] at hu; cases hu
      have hji : j / 4 < xs.length := by omega
      have ej : j = j / 4 * 4 + j % 4 := by omega
      rw [ej, flat4_at V hV4 _ _ _ hji (by omega), hVe _ hji] at hu
      obtain ⟨_, _, _, _, _, b', o', eb, hc⟩ := hV0 _ hji
      injection eb with eb
      injection eb with eb1 eb2 _
      subst eb1 eb2
      rw [add_lit', show o + j = o + j / 4 * 4 + j % 4 by omega]
      exact hc _ _ hu
    have hone : ∀ u ∈ (List.range xs.length).flatMap V, u.oneCell' = true := by
      intro u hu
      obtain ⟨i, hi', hu'⟩ := List.mem_flatMap.1 hu
      have hi2 : i < xs.length := by simpa using hi'
      obtain ⟨A3, c3, e, _⟩ := hVp i hi2
      rw [e] at hu'
      simp only [List.mem_cons, List.not_mem_nil, or_false] at hu'
      rcases hu' with rfl | rfl | rfl | rfl <;> rfl
    obtain ⟨v2, w3, hr3, ho3, hg3, _, _⟩ := run_append_own_at (P := Try.prog) w2 0 48 48 61 i0 _ 4 32 Try.underlying48 hi hz0 hz1 hz2 rfl (by omega) v1 (0 + 1) _ ho2 ⟨b, o, none⟩ xs.length c ((List.range xs.length).flatMap V) (flat4_len V hV4 _)
      hcells hone (by simp only [maxLen]; omega) (by omega) (Nat.zero_le _)
    have hk3 : Keep (fun _ => False) w1 w3 := hk2.grown hg3 (fun k hk hlt => by have := hb2' k hk; omega)
    have hx3 : Ext w1 w3 := hk3.below (Nat.le_refl _) (fun _ _ => id)
    obtain ⟨A2, c2, e, hxx, hri⟩ := fin (fun i => V i) v2 w3 hVp hV4 ho3 hx3
    exact ⟨v1, w2, A2, c2, w3, hr1, by rw [hr3, e], hxx, hri⟩
end Go.Proofs.Ytfpeeilenocaoaa.Idx
