/- For the checks of registers: contracts of New, Check, Same and of the law's own test at any struct; how such an argument is read. -/
import Derived.Test.YtolhhbnamldghaaPHllChecksx1
import Derived.Test.YtolhhbnamldghaaOwnB
import Derived.Test.YtolhhbnamldghaaRely
import Derived.Test.YtolhhbnamldghaaKd
import Derived.Test.YtolhhbnamldghaaBit
import Derived.Test.YtolhhbnamldghaaLit
import Derived.ChangeSlices
import Derived.Deep.Slices
import Derived.Deep.Strs
import Derived.Deep.QuietTactic
import Derived.LoopTactic
import Derived.Outline
import Derived.WideShapes
namespace Go.Proofs.Ytolhhbnamldghaa.HllC
open Go Go.RowKit Go.ChangeShapes Go.WideShapes Go.Proofs.YtolhhbnamldghaaW.PrintWords Go.Proofs.Ytolhhbnamldghaa.Own Go.Proofs.Ytolhhbnamldghaa.Rely Go.Proofs.Ytolhhbnamldghaa.PHllChecks
attribute [local go_sem] min_ints max_ints

theorem ext_new (w : World) (o : Obj) : Ext w (w.alloc o) := (Below.refl _ _).alloc (Nat.le_refl _) _
theorem ext_drewN (w : World) (n : Nat) : Ext w (w.drewN n) := ⟨rfl, rfl, rfl, Nat.le_refl _, fun _ _ => rfl⟩
def Box2 (w : World) (b : Nat) (v0 v1 : Value) : Prop := w.cell? ⟨b, 0, none⟩ = some v0 ∧ w.cell? ⟨b, 1, none⟩ = some v1
theorem Box2.ext {w w' : World} {b : Nat} {v0 v1 : Value} (h : Box2 w b v0 v1) (e : Ext w w') : Box2 w' b v0 v1 := ⟨e.cell h.1, e.cell h.2⟩
theorem box2_new (w : World) (v0 v1 : Value) (t : TypeId) : Box2 (w.alloc (.cells #[v0, v1] t)) w.heap.size v0 v1 := by
  have hb := heap_alloc_new w (.cells #[v0, v1] t)
  have y0 := Blk.cell (S := fun q => q = w.heap.size) ⟨hb, fun _ => Iff.rfl⟩ 0
  have y1 := Blk.cell (S := fun q => q = w.heap.size) ⟨hb, fun _ => Iff.rfl⟩ 1
  exact ⟨y0.trans rfl, y1.trans rfl⟩
theorem u8s_shape {H : Type} {enc : TypeId × Value → H} {W : World} {n : Nat} {u : Value} {y : DataW H × List MemPlace}
    (h : DataW.trod enc Try.prog W 0 (fun _ => true) true n 23 [u] = some y) : ∃ A len cap, u = .slice A len cap := by
  rcases open_ints Try.underlying23 Try.underlying5 (by kernel_rfl) h with ⟨hcs, _⟩ | ⟨x, l, c, zs, hcs, _⟩
  · simp at hcs; exact ⟨_, _, _, hcs⟩
  · simp at hcs; exact ⟨_, _, _, hcs⟩
theorem hll_of {H : Type} {enc : TypeId × Value → H} {W : World} {base : Nat} {v : Value} {d : DataW H} {p : List MemPlace}
    (hv : Value.okWide Try.prog W .any base 35 v) (h : DataW.Trod enc Try.prog W 0 (fun _ => true) true 35 v d p) :
    ∃ r A cap l, v = .agg #[.int .i64 r, .slice A (List.length l) cap] ∧ (Lit.int .i64 r).wf = true ∧ ArgI W .u8 A cap l := by
  obtain ⟨cs, rfl, hsz⟩ := okWide_struct Try.underlying35 hv
  obtain ⟨fuel, hf⟩ := h
  have hc2 : Try.prog.cellsOf 35 = 2 := by kernel_rfl
  have hs1 : Try.prog.cellsOf 3 = 1 := by kernel_rfl
  have hs2 : Try.prog.cellsOf 23 = 1 := by kernel_rfl
  rw [hc2] at hsz
  obtain ⟨u0, u1, rfl⟩ : ∃ u0 u1, cs = #[u0, u1] := by
    rcases cs with ⟨l⟩
    match l, hsz with
    | [a, b], _ => exact ⟨a, b, rfl⟩
  obtain ⟨y0, y1, n, _, _, e0, e1⟩ := trod_struct2 Try.underlying35 hf
  simp only [Value.cells] at e0 e1
  simp only [hs1, hs2] at e0 e1
  simp only [List.drop_zero, List.drop_succ_cons, List.take_succ_cons, List.take_zero] at e0 e1
  obtain ⟨A2, l2, c2, rfl⟩ := u8s_shape e1
  obtain ⟨pay, rfl, w2⟩ := argI_of (P := Try.prog) Try.underlying23 Try.underlying5 (by kernel_rfl) (show DataW.Trod enc Try.prog W 0 (fun _ => true) true 23 (.slice A2 l2 c2) y1.1 y1.2 from ⟨n, e1⟩)
  obtain ⟨x0, g0, _, w0⟩ := DataW.trod_int Try.underlying3 e0
  simp at g0
  subst g0
  exact ⟨x0, A2, c2, pay, rfl, w0, w2⟩

/-- In one step from x to y; else nothing. -/
def OneW (x y : World) (a b : World) : Prop := a = b ∨ (a = x ∧ b = y)
theorem OneW.refl (x y a : World) : OneW x y a a := .inl rfl
theorem OneW.trans (x y a b c : World) (h : OneW x y a b) (k : OneW x y b c) : OneW x y a c := by
  rcases h with rfl | ⟨rfl, rfl⟩
  · exact k
  · rcases k with rfl | ⟨rfl, rfl⟩
    · exact .inr ⟨rfl, rfl⟩
    · exact .inr ⟨rfl, rfl⟩
theorem OneW.end_ {x y a b : World} (h : OneW x y a b) (ha : a = y) : b = y := by
  rcases h with rfl | ⟨_, rfl⟩
  · exact ha
  · rfl
theorem ext_keep {w0 w w' : World} {p : Nat} (h : Ext w0 w) (hp : w0.heap.size ≤ p) (k : Keep (fun q => q = p) w w') : Ext w0 w' :=
  Below.trans h (k.below h.size (fun x hx hz => by have hz' : x = p := hz; omega))

theorem fresh_ext {n0 : Nat} {e : TypeId} {k : IntKind} {v : Value} {xs : List Int} {w w' : World} (h : Lit.Fresh n0 e k v xs w) (x : Ext w w') : Lit.Fresh n0 e k v xs w' := by
  obtain ⟨S, h1, h2⟩ := h
  exact ⟨S, Ext.keep (Lcl.row _ _ _ _) x h1, h2⟩
theorem src_reads {w : World} {k : IntKind} {A : Option Addr} {xs : List Int} (h : Reads w k A xs) : ∀ i, i < xs.length → ∃ ad, A = some ad ∧ w.cell? (ad.add i) = some (.int k (xs.getD i 0)) := by
  intro i hi
  obtain ⟨b, o, e, _, hc⟩ := h i hi
  exact ⟨⟨b, o, none⟩, e, by rw [add_lit']; exact hc⟩

theorem row_other {w : World} {g n c p : Nat} {e t : TypeId} {k : IntKind} {xs : List Int} {cs : Array Value} {S : Nat → Prop} (h : Row e k (.slice (some ⟨g, 0, none⟩) n c) xs w S) (hh : w.heap[p]? = some (.cells cs t (0, 0))) (he : e ≠ t) : p ≠ g := by
  rintro rfl
  rcases h.1.2 with ⟨h', _⟩ | ⟨g', cap', cur, h', _, hg, _⟩
  · cases h'
  · have : p = g' := by injection h' with h'; injection h' with h'; injection h' with h'
    subst this
    rw [hh] at hg
    injection hg with hg
    injection hg with _ hg
    exact he hg.symm

theorem info_u8 : (Try.prog.info? 5).map (fun i => (i.zero, i.size, i.bytes)) = some (some (.int .u8 0), 1, 1) := by kernel_rfl
theorem zeros_bytes (n : Nat) : IsBytes (List.replicate n (0 : Int)) := by intro x hx; obtain ⟨_, rfl⟩ := List.mem_replicate.1 hx; omega
theorem set_bytes {n i : Nat} {x : Int} (hx : 0 ≤ x ∧ x ≤ 255) : IsBytes ((List.replicate n (0 : Int)).set i x) := by
  intro y hy
  rcases List.mem_or_eq_of_mem_set hy with h | rfl
  · exact zeros_bytes n y h
  · exact hx
theorem reads_tail {w : World} {b o n : Nat} (h : Reads w .u8 (some ⟨b, o, none⟩) (List.replicate n 0)) : Reads w .u8 (some ⟨b, o + 1, none⟩) (List.replicate (n - 1) 0) := by
  intro i hi
  rw [List.length_replicate] at hi
  obtain ⟨b', o', e, hb, hc⟩ := h (i + 1) (by rw [List.length_replicate]; omega)
  injection e with e
  injection e with e1 e2 _
  subst e1 e2
  refine ⟨b, o + 1, rfl, hb, ?_⟩
  rw [show o + 1 + i = o + (i + 1) by omega, hc]
  simp [List.getD_eq_getElem?_getD, List.getElem?_replicate, show i + 1 < n by omega, show i < n - 1 by omega]

/-! ### any struct -/
def chkH (p : Int) (l : List Int) : Int := if p < 4 ∨ 8 < p then 2 else if (l.length : Int) = 2 ^ p.toNat then (if l.any (fun x => decide (65 - p < x)) then 2 else 0) else 6
theorem shl_p {p : Int} (h : 4 ≤ p) (h' : p ≤ 8) : shl .i64 1 p = 2 ^ p.toNat := by
  rcases (by omega : p = 4 ∨ p = 5 ∨ p = 6 ∨ p = 7 ∨ p = 8) with rfl | rfl | rfl | rfl | rfl <;> decide
theorem pow_p {p : Int} (h : 4 ≤ p) (h' : p ≤ 8) : (16 : Int) ≤ 2 ^ p.toNat ∧ (2 : Int) ^ p.toNat ≤ 256 := by
  rcases (by omega : p = 4 ∨ p = 5 ∨ p = 6 ∨ p = 7 ∨ p = 8) with rfl | rfl | rfl | rfl | rfl <;> decide
theorem chk_l {p : Int} (h : 4 ≤ p) (h' : p ≤ 8) (l : List Int) (hb : IsBytes l) (hl : l.length ≤ 1000000) : ∀ (d k i : Nat), i + d = l.length → d < k → hll_Hll_Check.l0 k l (l.length : Int) i p l = some (if (l.drop i).any (fun x => decide (65 - p < x)) then 2 else 0) := by
  intro d
  induction d with
  | zero =>
    intro k i hi hk
    obtain ⟨k, rfl⟩ : ∃ m, k = m + 1 := ⟨k - 1, by omega⟩
    simp only [hll_Hll_Check.l0]
    rw [if_neg (show ¬ (i : Int) < (l.length : Int) by omega), List.drop_eq_nil_of_le (by omega)]
    rfl
  | succ d ih =>
    intro k i hi hk
    obtain ⟨k, rfl⟩ : ∃ m, k = m + 1 := ⟨k - 1, by omega⟩
    have hil : i < l.length := by omega
    have hx := hb (l.getD i 0) (by simp [List.getD_eq_getElem?_getD, List.getElem?_eq_getElem hil])
    have hrd : rd l (i : Int) = l.getD i 0 := rfl
    have hdr : l.drop i = l.getD i 0 :: l.drop (i + 1) := by
      rw [List.drop_eq_getElem_cons hil]
      simp [List.getD_eq_getElem?_getD, List.getElem?_eq_getElem hil]
    obtain ⟨x, hx9⟩ : ∃ x, l.getD i 0 = x := ⟨_, rfl⟩
    rw [hx9] at hx hrd hdr
    have i1 : (i : Int) < (l.length : Int) := by omega
    have i0 : (0 : Int) ≤ (i : Int) := by omega
    have ih2 := ih k (i + 1) (by omega) (by omega)
    have hw3 : wrap64 ((i : Int) + 1) = ((i + 1 : Nat) : Int) := by unfold wrap64; omega
    have hw1 : wrap64 x = x := by unfold wrap64; omega
    have hw2 : wrap64 (65 - p) = 65 - p := by unfold wrap64; omega
    simp only [hll_Hll_Check.l0]
    rw [if_pos i1, if_pos i0, if_pos i1, hll_Hll_Top.f, Option.bind_some, hrd, hw1, hw2, hw3, ih2, hdr, List.any_cons]
    clear hw1 hw2 hw3 ih2
    by_cases hc : 65 - p < x
    · rw [if_pos hc, decide_eq_true hc]; rfl
    · rw [if_neg hc, decide_eq_false hc]; rfl
theorem chk_f (p : Int) (l : List Int) (hb : IsBytes l) (hl : l.length ≤ 1000000) : hll_Hll_Check.f (l.length + 2) p l = some (chkH p l) := by
  unfold hll_Hll_Check.f chkH
  by_cases h1 : p < 4
  · rw [if_pos h1, if_pos (.inl h1)]
    simp only [hll_Hll_Check.j0]; rfl
  · rw [if_neg h1]
    simp only [hll_Hll_Check.j0]
    by_cases h2 : 8 < p
    · rw [decide_eq_true h2, if_pos rfl, if_pos (.inr h2)]
    · rw [decide_eq_false h2, if_neg (show ¬ (false = true) by decide), if_pos (show (0 : Int) ≤ p by omega), if_neg (show ¬ (p < 4 ∨ 8 < p) by omega), shl_p (by omega) (by omega)]
      by_cases h3 : (l.length : Int) = 2 ^ p.toNat
      · rw [if_pos h3, if_pos h3]
        have := chk_l (p := p) (by omega) (by omega) l hb hl l.length (l.length + 1) 0 (by omega) (by omega)
        rw [List.drop_zero] at this
        exact this
      · rw [if_neg h3, if_neg h3]
theorem check_h (p : Int) (l : List Int) (A : Option Addr) (cap : Nat) (w : World) (hr : Reads w .u8 A l) (hc : l.length ≤ cap) (hb : IsBytes l) (hm : l.length ≤ 1000000) :
    Calls Try.prog 20 #[.agg #[.int .i64 p, .slice A l.length cap]] w fun e w' => e = .returned (.int .i64 (chkH p l)) ∧ Ext w w' :=
  hll_Hll_Check.calls (l.length + 2) p A cap l _ w (KdX.C_of_reads (by omega) hr) hc (chk_f p l hb hm)
def okP (a : Int) : Bool := decide (4 ≤ a ∧ a ≤ 8)
theorem new_any (a : Int) (w : World) :
    Calls Try.prog 19 #[.int .i64 a] w fun e w' => ∃ r n A cap, e = .returned (.tuple #[.agg #[.int .i64 r, .slice A n cap], .bool (okP a)]) ∧ n ≤ 256 ∧ n ≤ cap ∧ Reads w' .u8 A (List.replicate n 0) ∧ Ext w w' ∧ (okP a = true → r = a ∧ (n : Int) = 2 ^ a.toNat) := by
  have key : ∃ r n, hll_New.f a = some (r, List.replicate n 0, okP a) ∧ n ≤ 256 ∧ (okP a = true → r = a ∧ (n : Int) = 2 ^ a.toNat) := by
    unfold hll_New.f okP
    by_cases h1 : a < 4
    · exact ⟨0, 0, by rw [if_pos h1, decide_eq_false (by omega)]; rfl, by omega, fun h => absurd (of_decide_eq_true h) (by omega)⟩
    by_cases h2 : 8 < a
    · exact ⟨0, 0, by rw [if_neg h1, if_pos h2, decide_eq_false (by omega)]; rfl, by omega, fun h => absurd (of_decide_eq_true h) (by omega)⟩
    · have hp := pow_p (p := a) (by omega) (by omega)
      refine ⟨a, ((2 : Int) ^ a.toNat).toNat, ?_, by omega, fun _ => ⟨rfl, by omega⟩⟩
      rw [if_neg h1, if_neg h2, shl_p (by omega) (by omega), if_pos (by omega), if_pos (by omega), if_pos (by omega), decide_eq_true (by omega)]
  obtain ⟨r, n, h, hl, hq⟩ := key
  refine (hll_New.calls a r _ _ w h).mono ?_
  rintro e w' ⟨v, rfl, hR, hb⟩
  obtain ⟨A', c', rfl, hc', hC'⟩ := Kd.R_reads hR
  rw [List.length_replicate] at hc' ⊢
  exact ⟨r, n, A', c', rfl, hl, hc', KdX.reads_of_C hC', hb, hq⟩
theorem same_h (p q : Int) (l m : List Int) (A B : Option Addr) (cap dap : Nat) (w : World) (hr : Reads w .u8 A l) (hc : l.length ≤ cap) (hr' : Reads w .u8 B m) (hd : m.length ≤ dap) (hm : l.length ≤ 1000000) (hm' : m.length ≤ 1000000) (hbl : IsBytes l) (hbm : IsBytes m) :
    Calls Try.prog 21 #[.agg #[.int .i64 p, .slice A l.length cap], .agg #[.int .i64 q, .slice B m.length dap]] w fun e w' => e = .returned (.bool (decide (p = q ∧ l = m))) ∧ Ext w w' := by
  refine hll_Same.calls p A cap l q B dap m _ w (KdX.C_of_reads (by omega) hr) hc (KdX.C_of_reads (by omega) hr') hd ?_
  unfold hll_Same.f
  by_cases h1 : p = q
  · rw [if_pos h1]
    by_cases h2 : l = m
    · rw [str_eq h2, decide_eq_true ⟨h1, h2⟩]
    · rw [str_ne hbl hbm h2, decide_eq_false (fun x => h2 x.2)]
  · rw [if_neg h1, decide_eq_false (fun x => h1 x.1)]

set_option maxHeartbeats 4000000 in
set_option maxRecDepth 20000 in
theorem right_h (p : Int) (l : List Int) (A : Option Addr) (cap : Nat) (w : World) (hr : Reads w .u8 A l) (hc : l.length ≤ cap) (hb : IsBytes l) (hm : l.length ≤ 1000000) :
    Calls Try.prog 18 #[.agg #[.int .i64 p, .slice A l.length cap]] w fun e w' => e = .returned (.int .i64 (chkH p l)) ∧ Ext w w' := by
  have HR := Lib.hid hr
  have HB := Lib.hid hb
  have HCH := Lib.hid (show chkH p l = chkH p l from rfl)
  clear hr hb
  obtain ⟨N, hN⟩ : ∃ N, chkH p l = N := ⟨_, rfl⟩
  rw [hN]
  have HN := Lib.hid hN
  clear hN HCH
  go_enter Try.func18, Try.ntmps18
  have BX := Lib.hid (box2_new w (.int .i64 p) (.slice A l.length cap) 35)
  have X := Lib.hid (ext_new w (.cells #[.int .i64 p, .slice A l.length cap] 35))
  have g1 := BX.out.1
  have g2 := BX.out.2
  by_cases h1 : p < 4
  · have d1 : decide (p < 4) = true := by simpa using h1
    obtain rfl : N = 2 := by rw [← HN.out]; exact if_pos (.inl h1)
    go_wp2_with fail
    go_ret
    exact ⟨rfl, X.out⟩
  have d1 : decide (p < 4) = false := by simpa using h1
  by_cases h2 : 8 < p
  · have d2 : decide (8 < p) = true := by simpa using h2
    obtain rfl : N = 2 := by rw [← HN.out]; exact if_pos (.inr h2)
    go_wp2_with fail
    go_ret
    exact ⟨rfl, X.out⟩
  have d2 : decide (8 < p) = false := by simpa using h2
  have hpp := pow_p (p := p) (by omega) (by omega)
  have hsh := shl_p (p := p) (by omega) (by omega)
  have HN1 : RowKit.Hid (N = if (l.length : Int) = 2 ^ p.toNat then (if l.any (fun x => decide (65 - p < x)) then 2 else 0) else 6) := Lib.hid (by rw [← HN.out]; exact if_neg (by omega))
  obtain ⟨Q, hQ⟩ : ∃ Q : Int, 2 ^ p.toNat = Q := ⟨_, rfl⟩
  rw [hQ] at hpp hsh HN1
  have hw2 : wrap64 ((2 : Int) ^ p.toNat) = Q := by rw [hQ]; unfold wrap64; omega
  have hsn : ¬ p < 0 := by omega
  clear hQ HN
  go_wp2_with fail
  by_cases h3 : (l.length : Int) = Q
  case neg =>
    have d3 : ((l.length : Int) != Q) = true := by simpa using h3
    have d3b : decide ((l.length : Int) = Q) = false := by simpa using h3
    obtain rfl : N = 6 := by rw [HN1.out, if_neg h3]
    go_quiet (fail)
    go_wp2_with fail
    go_ret
    exact ⟨rfl, Ext.trans _ _ _ X.out (ext_drewN _ _)⟩
  have d3 : ((l.length : Int) != Q) = false := by simp [h3]
  have d3b : decide ((l.length : Int) = Q) = true := by simpa using h3
  have HN2 : RowKit.Hid (N = if (l.drop 0).any (fun x => decide (65 - p < x)) then 2 else 0) := Lib.hid (by rw [HN1.out, if_pos h3]; rfl)
  clear HN1 h3
  go_quiet (fail)
  go_wp2_with fail
  obtain ⟨w1, hw1⟩ : ∃ w1, (w.alloc (.cells #[.int .i64 p, .slice A l.length cap] 35)).drewN nq = w1 := ⟨_, rfl⟩
  have hx1 : Ext (w.alloc (.cells #[.int .i64 p, .slice A l.length cap] 35)) w1 := by rw [← hw1]; exact ext_drewN _ _
  have BX1 := Lib.hid (BX.out.ext hx1)
  have X1 := Lib.hid (Ext.trans _ _ _ X.out hx1)
  rw [hw1]
  clear hx1 hw1 BX X g1 g2 d3 d3b d1 d2 hsh hw2
  go_loopw [25] (fun v wq => ∃ j : Nat, j ≤ l.length ∧ v = .int .i64 j ∧ Ext w wq ∧ Ext w1 wq ∧ N = if (l.drop j).any (fun x => decide (65 - p < x)) then 2 else 0) (fun v _ => l.length - (intOf v).toNat)
  case atStart => exact ⟨0, by omega, rfl, X1.out, Ext.refl _, HN2.out⟩
  case round =>
    obtain ⟨j, hj, rfl, hxa, hxb, hN⟩ := hrel
    clear HN2 X1
    by_cases hj2 : j < l.length
    · have hj4 : (j : Int) < (l.length : Int) := by omega
      obtain ⟨bb, oo, rfl, hblt, cx⟩ := (hxa.reads HR.out).at hj2
      have hx9 := HB.out (l.getD j 0) (by simp [List.getD_eq_getElem?_getD, List.getElem?_eq_getElem hj2])
      have hdr : l.drop j = l.getD j 0 :: l.drop (j + 1) := by
        rw [List.drop_eq_getElem_cons hj2]
        simp [List.getD_eq_getElem?_getD, List.getElem?_eq_getElem hj2]
      obtain ⟨x, hx⟩ : ∃ x, l.getD j 0 = x := ⟨_, rfl⟩
      rw [hx] at cx hx9 hdr
      rw [hdr, List.any_cons] at hN
      obtain ⟨g1, g2⟩ := BX1.out.ext hxb
      have XA := Lib.hid hxa
      have XB := Lib.hid hxb
      have hw3 : wrap64 (65 - p) = 65 - p := (by unfold wrap64; omega)
      clear hx hdr hxa hxb hblt
      by_cases hc9 : 65 - p < x
      · have d5 : decide (65 - p < x) = true := by simpa using hc9
        rw [d5] at hN
        have hN0 : N = 2 := hN
        subst hN0
        clear hN
        go_wp2_with fail
        go_ret
        exact ⟨rfl, XA.out⟩
      · have d5 : decide (65 - p < x) = false := by simpa using hc9
        rw [d5, Bool.false_or] at hN
        have HN3 := Lib.hid hN
        clear hN
        go_wp2_with fail
        go_roundw
        case rel => exact ⟨j + 1, by omega, by go_num, XA.out, XB.out, HN3.out⟩
        case measure => simp [intOf]; omega
    · obtain rfl : j = l.length := by omega
      have hN0 : N = 0 := by rw [hN, List.drop_length]; rfl
      subst hN0
      go_wp2_with fail
      go_ret
      exact ⟨rfl, hxa⟩
end Go.Proofs.Ytolhhbnamldghaa.HllC
