/- For the checks of counts by rows: contracts of Check, New, Most and Same at any struct; how such an argument is read. -/
import Derived.Test.YthemincohmgihaaCmsSplits
import Derived.Test.YthemincohmgihaaCmsMerge
import Derived.Test.YthemincohmgihaaKd
import Derived.ChangeSlices
import Derived.Deep.Slices
import Derived.Deep.Strs
import Derived.WideShapes
namespace Go.Proofs.Ythemincohmgihaa.PCmsMerges
open Go Go.RowKit Go.ChangeShapes Go.WideShapes Go.Proofs.YthemincohmgihaaW.PrintWords Go.Proofs.Ythemincohmgihaa.Own Go.Proofs.Ythemincohmgihaa.Rely
attribute [local go_sem] min_ints max_ints

theorem u32s_shape {H : Type} {enc : TypeId × Value → H} {W : World} {n : Nat} {u : Value} {y : DataW H × List MemPlace}
    (h : DataW.trod enc Try.prog W 0 (fun _ => true) true n 47 [u] = some y) : ∃ A len cap, u = .slice A len cap := by
  rcases open_ints Try.underlying47 Try.underlying22 (by kernel_rfl) h with ⟨hcs, _⟩ | ⟨x, l, c, zs, hcs, _⟩
  · simp at hcs; exact ⟨_, _, _, hcs⟩
  · simp at hcs; exact ⟨_, _, _, hcs⟩
theorem cms_of {H : Type} {enc : TypeId × Value → H} {W : World} {base : Nat} {v : Value} {d : DataW H} {p : List MemPlace}
    (hv : Value.okWide Try.prog W .any base 49 v) (h : DataW.Trod enc Try.prog W 0 (fun _ => true) true 49 v d p) :
    ∃ r c A cap l, v = .agg #[.int .i64 r, .int .i64 c, .slice A (List.length l) cap] ∧ (Lit.int .i64 r).wf = true ∧ (Lit.int .i64 c).wf = true ∧ ArgI W .u32 A cap l := by
  obtain ⟨cs, rfl, _⟩ := okWide_struct Try.underlying49 hv
  obtain ⟨fuel, hf⟩ := h
  obtain ⟨y0, y1, y2, n, _, hlen, e0, e1, e2⟩ := Go.Deep.trod_struct3 Try.underlying49 hf
  have hc3 : Try.prog.cellsOf 49 = 3 := by kernel_rfl
  have hs1 : Try.prog.cellsOf 3 = 1 := by kernel_rfl
  have hs2 : Try.prog.cellsOf 47 = 1 := by kernel_rfl
  rw [hc3] at hlen
  simp only [Value.cells] at hlen e0 e1 e2
  simp only [hs1, hs2] at e0 e1 e2
  obtain ⟨u0, u1, u2, rfl⟩ : ∃ u0 u1 u2, cs = #[u0, u1, u2] := by
    rcases cs with ⟨l⟩
    match l, hlen with
    | [a, b, c], _ => exact ⟨a, b, c, rfl⟩
  simp only [List.drop_zero, List.drop_succ_cons, List.take_succ_cons, List.take_zero] at e0 e1 e2
  obtain ⟨A2, l2, c2, rfl⟩ := u32s_shape e2
  obtain ⟨pay, rfl, w2⟩ := argI_of (P := Try.prog) Try.underlying47 Try.underlying22 (by kernel_rfl) (show DataW.Trod enc Try.prog W 0 (fun _ => true) true 47 (.slice A2 l2 c2) y2.1 y2.2 from ⟨n, e2⟩)
  obtain ⟨x0, g0, _, w0⟩ := DataW.trod_int Try.underlying3 e0
  obtain ⟨x1, g1, _, w1⟩ := DataW.trod_int Try.underlying3 e1
  simp at g0 g1
  subst g0 g1
  exact ⟨x0, x1, A2, c2, pay, rfl, w0, w1, w2⟩

theorem okWide_array {P : Program} {w : World} {r : Reach} {base n : Nat} {t e : TypeId} {v : Value} (ht : P.underlying t = some (.array n e)) (h : Value.okWide P w r base t v) : ∃ cs, v = .agg cs ∧ cs.size = P.cellsOf t := by
  simp only [Value.okWide, ht] at h
  obtain ⟨cs, h1, h2, _⟩ := h
  exact ⟨cs, h1, h2⟩
theorem trod_array2 {H : Type} {enc : TypeId × Value → H} {P : Program} {w : World} {base : Nat} {spare : Nat → Bool} {held : Bool} {t e : TypeId} {fuel : Nat} {c0 c1 : Value} {x : DataW H × List MemPlace} (ht : P.underlying t = some (.array 2 e)) (hce : P.cellsOf e = 1)
    (h : DataW.trod enc P w base spare held fuel t [c0, c1] = some x) : ∃ y0 y1 n, DataW.trod enc P w base spare held n e [c0] = some y0 ∧ DataW.trod enc P w base spare held n e [c1] = some y1 := by
  cases fuel with
  | zero => simp [DataW.trod] at h
  | succ n =>
    unfold DataW.trod at h
    rw [ht] at h
    have r2 : List.range 2 = [0, 1] := rfl
    simp [r2, hce] at h
    obtain ⟨_, h⟩ := h
    cases h0 : DataW.trod enc P w base spare held n e [c0] with
    | none => simp [h0] at h
    | some y0 =>
      cases h1 : DataW.trod enc P w base spare held n e [c1] with
      | none => simp [h0, h1] at h
      | some y1 => exact ⟨y0, y1, n, h0, h1⟩
theorem arr_of {H : Type} {enc : TypeId × Value → H} {W : World} {base : Nat} {v : Value} {d : DataW H} {p : List MemPlace}
    (hv : Value.okWide Try.prog W .any base 60 v) (h : DataW.Trod enc Try.prog W 0 (fun _ => true) true 60 v d p) :
    ∃ a b, v = .agg #[.int .u8 a, .int .u8 b] ∧ (Lit.int .u8 a).wf = true ∧ (Lit.int .u8 b).wf = true := by
  obtain ⟨cs, rfl, hsz⟩ := okWide_array Try.underlying60 hv
  have hc2 : Try.prog.cellsOf 60 = 2 := by kernel_rfl
  rw [hc2] at hsz
  obtain ⟨fuel, hf⟩ := h
  obtain ⟨u0, u1, rfl⟩ : ∃ u0 u1, cs = #[u0, u1] := by
    rcases cs with ⟨l⟩
    match l, hsz with
    | [a, b], _ => exact ⟨a, b, rfl⟩
  obtain ⟨y0, y1, n, e0, e1⟩ := trod_array2 Try.underlying60 (by kernel_rfl) (show DataW.trod enc Try.prog W 0 (fun _ => true) true fuel 60 [u0, u1] = some _ from hf)
  obtain ⟨x0, g0, _, w0⟩ := DataW.trod_int Try.underlying5 e0
  obtain ⟨x1, g1, _, w1⟩ := DataW.trod_int Try.underlying5 e1
  simp at g0 g1
  subst g0 g1
  exact ⟨x0, x1, rfl, w0, w1⟩
section
variable {P : Program} {ops : Array Oper} {rest : List Oper} {o : Oper} {a : Act} {Q : Exit → Act → World → Prop}
theorem build_three (w : World) (hgd : o.guard = none) (t : TypeId) (x0 x1 x2 : Operand) (ho : o.op = .build t #[(0, x0), (1, x1), (2, x2)])
    (v0 v1 v2 v' : Value) (h0 : a.eval x0 = v0) (h1 : a.eval x1 = v1) (h2 : a.eval x2 = v2) (hrun : (Instr.build t #[(0, v0), (1, v1), (2, v2)]).run P w = .ok v' w) (K : wpList P ops Q rest (a.put o.dst v') w) : wpList P ops Q (o :: rest) a w := by
  refine wpList_plain hgd fun K' hK => ?_
  unfold Oper.wp execOp
  simp only [ho, Sem.run_bind, Sem.run_pure, Result.andThen_ok, List.map_toArray, List.map_cons, List.map_nil, h0, h1, h2, hrun]
  exact hK _ _ K
theorem append_run (w : World) (hgd : o.guard = none) (s x : Operand) (t : TypeId) (ho : o.op = .call { callee := .builtin .append, args := #[s, x], argTypes := #[t, t] })
    (v xv v' : Value) (w' : World) (hs : a.eval s = v) (hx : a.eval x = xv) (hrun : (Builtin.append_ #[t, t] o.type #[v, xv]).run P w = .ok v' w') (K : wpList P ops Q rest (a.put o.dst v') w') : wpList P ops Q (o :: rest) a w := by
  refine wpList_plain hgd fun K' hK => ?_
  unfold Oper.wp execOp
  simp only [ho, resolve, invoke, builtin, Sem.run_bind, Sem.run_pure, Result.andThen_ok, List.map_toArray, List.map_cons, List.map_nil, hs, hx, hrun]
  exact hK _ _ K
end
/-- In one step from x to y; else nothing. -/
def OneW (x y : World) (a b : World) : Prop := a = b ∨ (a = x ∧ b = y)
theorem OneW.refl (x y a : World) : OneW x y a a := .inl rfl
theorem OneW.trans (x y a b c : World) (h : OneW x y a b) (k : OneW x y b c) : OneW x y a c := by
  rcases h with rfl | ⟨rfl, rfl⟩
  · exact k
  · rcases k with rfl | ⟨rfl, rfl⟩
    · exact .inr ⟨rfl, rfl⟩
    · exact .inr ⟨rfl, rfl⟩
theorem OneW.end_ {x y a b : World} (h : OneW x y a b) (ha : a = y) : b = y := by
  rcases h with rfl | ⟨_, rfl⟩
  · exact ha
  · rfl
theorem put3 {w : World} {p : Nat} {y0 y1 y2 : Value} {t : TypeId} (x0 x1 x2 : Value) (h : Blk p #[y0, y1, y2] t w (fun q => q = p)) :
    Blk p #[x0, x1, x2] t (((w.setCell ⟨p, 0, none⟩ x0).setCell ⟨p, 1, none⟩ x1).setCell ⟨p, 2, none⟩ x2) (fun q => q = p) ∧ Keep (fun q => q = p) w (((w.setCell ⟨p, 0, none⟩ x0).setCell ⟨p, 1, none⟩ x1).setCell ⟨p, 2, none⟩ x2) := by
  have h1 := Blk.set h 0 x0
  have h2 := Blk.set h1.1 1 x1
  have h3 := Blk.set h2.1 2 x2
  exact ⟨by simpa using h3.1, ((h1.2.trans h2.2).trans h3.2).keep⟩
theorem box_of {w : World} {p : Nat} {x0 x1 x2 : Value} {t : TypeId} (h : Blk p #[x0, x1, x2] t w (fun q => q = p)) : Box3 w p x0 x1 x2 := by
  have h0 := h.cell 0
  have h1 := h.cell 1
  have h2 := h.cell 2
  exact ⟨by simpa using h0, by simpa using h1, by simpa using h2⟩
theorem ext_keep {w0 w w' : World} {p : Nat} (h : Ext w0 w) (hp : w0.heap.size ≤ p) (k : Keep (fun q => q = p) w w') : Ext w0 w' :=
  Below.trans h (k.below h.size (fun x hx hz => by have hz' : x = p := hz; omega))

theorem fresh_ext {n0 : Nat} {e : TypeId} {k : IntKind} {v : Value} {xs : List Int} {w w' : World} (h : Lit.Fresh n0 e k v xs w) (x : Ext w w') : Lit.Fresh n0 e k v xs w' := by
  obtain ⟨S, h1, h2⟩ := h
  exact ⟨S, Ext.keep (Lcl.row _ _ _ _) x h1, h2⟩
theorem src_reads {w : World} {k : IntKind} {A : Option Addr} {xs : List Int} (h : Reads w k A xs) : ∀ i, i < xs.length → ∃ ad, A = some ad ∧ w.cell? (ad.add i) = some (.int k (xs.getD i 0)) := by
  intro i hi
  obtain ⟨b, o, e, _, hc⟩ := h i hi
  exact ⟨⟨b, o, none⟩, e, by rw [add_lit']; exact hc⟩

theorem reads_rest {w : World} {b o n d : Nat} (h : Reads w .u32 (some ⟨b, o, none⟩) (List.replicate n 0)) (hd : n ≤ d) : Reads w .u32 (if d = 1 then some (⟨b, o, none⟩ : Addr) else some ⟨b, o + 1, none⟩) (List.replicate (n - 1) 0) := by
  intro i hi
  rw [List.length_replicate] at hi
  rw [if_neg (by omega)]
  obtain ⟨b', o', e, hb, hc⟩ := h (i + 1) (by rw [List.length_replicate]; omega)
  injection e with e
  injection e with e1 e2 _
  subst e1 e2
  refine ⟨b, o + 1, rfl, hb, ?_⟩
  rw [show o + 1 + i = o + (i + 1) by omega, hc]
  simp [List.getD_eq_getElem?_getD, List.getElem?_replicate, show i + 1 < n by omega, show i < n - 1 by omega]
theorem row_other {w : World} {g n c p : Nat} {e t : TypeId} {k : IntKind} {xs : List Int} {cs : Array Value} {S : Nat → Prop} (h : Row e k (.slice (some ⟨g, 0, none⟩) n c) xs w S) (hh : w.heap[p]? = some (.cells cs t (0, 0))) (he : e ≠ t) : p ≠ g := by
  rintro rfl
  rcases h.1.2 with ⟨h', _⟩ | ⟨g', cap', cur, h', _, hg, _⟩
  · cases h'
  · have : p = g' := by injection h' with h'; injection h' with h'; injection h' with h'
    subst this
    rw [hh] at hg
    injection hg with hg
    injection hg with _ hg
    exact he hg.symm

/-! ### any struct -/
def chkC (r c : Int) (n : Nat) : Int := if r < 1 ∨ 8 < r ∨ c < 1 ∨ 256 < c then 2 else if (n : Int) = r * c then 0 else 6
theorem chk_f (r c : Int) (L : List Int) : cms_Cms_Check.f 1 r c L = some (chkC r c L.length) := by
  unfold cms_Cms_Check.f chkC
  by_cases h1 : r < 1
  · rw [if_pos h1, if_pos (.inl h1)]; rfl
  by_cases h2 : 8 < r
  · rw [if_neg h1, if_pos h2, if_pos (.inr (.inl h2))]; rfl
  by_cases h3 : c < 1
  · rw [if_neg h1, if_neg h2, if_pos h3, if_pos (.inr (.inr (.inl h3)))]; rfl
  by_cases h4 : 256 < c
  · rw [if_neg h1, if_neg h2, if_neg h3, decide_eq_true h4, if_pos (.inr (.inr (.inr h4)))]; rfl
  · have hna : ¬ (r < 1 ∨ 8 < r ∨ c < 1 ∨ 256 < c) := by omega
    have hw : wrap64 (r * c) = r * c := by
      have h0 : 0 ≤ r * c := Int.mul_nonneg (by omega) (by omega)
      have h9 : r * c ≤ 8 * 256 := Int.mul_le_mul (by omega) (by omega) (by omega) (by omega)
      unfold wrap64; omega
    rw [if_neg h1, if_neg h2, if_neg h3, decide_eq_false h4, if_neg hna]
    simp only [cms_Cms_Check.j0]
    rw [if_neg (show ¬ (false = true) by decide), hw]
    by_cases h5 : (L.length : Int) = r * c
    · rw [if_pos h5, if_pos h5]
    · rw [if_neg h5, if_neg h5]
theorem check_any (r c : Int) (L : List Int) (A : Option Addr) (cap : Nat) (w : World) (hr : Reads w .u32 A L) (hc : L.length ≤ cap) (hm : L.length ≤ 9223372036854775807) :
    Calls Try.prog 32 #[.agg #[.int .i64 r, .int .i64 c, .slice A L.length cap]] w fun e w' => e = .returned (.int .i64 (chkC r c L.length)) ∧ Ext w w' :=
  cms_Cms_Check.calls 1 r c A cap L _ w (KdX.C_of_reads hm hr) hc (chk_f r c L)
def okN (a b : Int) : Bool := decide (1 ≤ a ∧ a ≤ 8 ∧ 1 ≤ b ∧ b ≤ 256)
theorem new_any (a b : Int) (w : World) :
    Calls Try.prog 33 #[.int .i64 a, .int .i64 b] w fun e w' => ∃ r c L A cap, e = .returned (.tuple #[.agg #[.int .i64 r, .int .i64 c, .slice A (List.length L) cap], .bool (okN a b)]) ∧ L.length ≤ 2048 ∧ L.length ≤ cap ∧ Reads w' .u32 A L ∧ Ext w w' := by
  have key : ∃ r c L, cms_New.f a b = some (r, c, L, okN a b) ∧ List.length L ≤ 2048 := by
    unfold cms_New.f okN
    by_cases h1 : a < 1
    · exact ⟨0, 0, [], by rw [if_pos h1, decide_eq_false (by omega)], by simp⟩
    by_cases h2 : 8 < a
    · exact ⟨0, 0, [], by rw [if_neg h1, if_pos h2, decide_eq_false (by omega)], by simp⟩
    by_cases h3 : b < 1
    · exact ⟨0, 0, [], by rw [if_neg h1, if_neg h2, if_pos h3, decide_eq_false (by omega)], by simp⟩
    by_cases h4 : 256 < b
    · exact ⟨0, 0, [], by rw [if_neg h1, if_neg h2, if_neg h3, if_pos h4, decide_eq_false (by omega)], by simp⟩
    · have h0 : 0 ≤ a * b := Int.mul_nonneg (by omega) (by omega)
      have h9 : a * b ≤ 8 * 256 := Int.mul_le_mul (by omega) (by omega) (by omega) (by omega)
      have hw : wrap64 (a * b) = a * b := by unfold wrap64; omega
      refine ⟨a, b, List.replicate (a * b).toNat 0, ?_, by simp; omega⟩
      rw [if_neg h1, if_neg h2, if_neg h3, if_neg h4, hw, if_pos h0, if_pos (by omega), decide_eq_true (by omega)]
  obtain ⟨r, c, L, h, hl⟩ := key
  refine (cms_New.calls a b r c L _ w h).mono ?_
  rintro e w' ⟨v, rfl, hR, hb⟩
  obtain ⟨A', c', rfl, hc', hC'⟩ := rds_of hR
  exact ⟨r, c, L, A', c', rfl, hl, hc', KdX.reads_of_C hC', hb⟩
theorem new_good {R C : Nat} (r0 : 1 ≤ R) (r1 : R ≤ 8) (c0 : 1 ≤ C) (c1 : C ≤ 256) (w : World) :
    Calls Try.prog 33 #[.int .i64 R, .int .i64 C] w fun e w' => ∃ A cap, e = .returned (.tuple #[.agg #[.int .i64 R, .int .i64 C, .slice A (R * C) cap], .bool true]) ∧ R * C ≤ cap ∧ Reads w' .u32 A (List.replicate (R * C) 0) ∧ Ext w w' := by
  have h := new_f r0 r1 c0 c1
  rw [sketch_nil] at h
  refine (cms_New.calls R C R C _ true w h).mono ?_
  rintro e w' ⟨v, rfl, hR, hb⟩
  obtain ⟨A', c', rfl, hc', hC'⟩ := rds_of hR
  rw [List.length_replicate] at hc' ⊢
  exact ⟨A', c', rfl, hc', KdX.reads_of_C hC', hb⟩
theorem same_self (r c : Int) (L : List Int) (hn : L.length ≤ 100000) : ∀ (d k i : Nat), i + d = L.length → d < k → cms_Same.l0 k L.length i r c L r c L = some true := by
  intro d
  induction d with
  | zero =>
    intro k i hi hk
    obtain ⟨k, rfl⟩ : ∃ m, k = m + 1 := ⟨k - 1, by omega⟩
    simp only [cms_Same.l0]
    rw [if_neg (by omega)]
  | succ d ih =>
    intro k i hi hk
    obtain ⟨k, rfl⟩ : ∃ m, k = m + 1 := ⟨k - 1, by omega⟩
    have hr1 : wrap64 ((i : Int) + 1) = ((i + 1 : Nat) : Int) := by unfold wrap64; omega
    simp only [cms_Same.l0]
    rw [if_pos (show (i : Int) < (L.length : Int) by omega), if_pos (show (0 : Int) ≤ (i : Int) by omega), if_pos (show (i : Int) < (L.length : Int) by omega), if_pos (show (i : Int) < (L.length : Int) by omega), if_pos trivial, hr1]
    exact ih k (i + 1) (by omega) (by omega)
theorem same_any (r c : Int) (L : List Int) (A : Option Addr) (cap : Nat) (w : World) (hr : Reads w .u32 A L) (hc : L.length ≤ cap) (hm : L.length ≤ 100000) :
    Calls Try.prog 34 #[.agg #[.int .i64 r, .int .i64 c, .slice A L.length cap], .agg #[.int .i64 r, .int .i64 c, .slice A L.length cap]] w fun e w' => e = .returned (.bool true) ∧ Ext w w' := by
  refine cms_Same.calls (L.length + 2) r c A cap L r c A cap L _ w (KdX.C_of_reads (by omega) hr) hc (KdX.C_of_reads (by omega) hr) hc ?_
  unfold cms_Same.f
  rw [if_pos rfl, if_pos rfl]
  simp only [cms_Same.j0]
  rw [if_neg (by simp)]
  exact same_self r c L hm L.length _ 0 (by omega) (by omega)
theorem same_len (r c : Int) (L M : List Int) (A B : Option Addr) (cap dap : Nat) (w : World) (hr : Reads w .u32 A L) (hc : L.length ≤ cap) (hr' : Reads w .u32 B M) (hd : M.length ≤ dap) (hm : L.length ≤ 100000) (hm' : M.length ≤ 100000) (hne : L.length ≠ M.length) :
    Calls Try.prog 34 #[.agg #[.int .i64 r, .int .i64 c, .slice A L.length cap], .agg #[.int .i64 r, .int .i64 c, .slice B M.length dap]] w fun e w' => e = .returned (.bool false) ∧ Ext w w' := by
  refine cms_Same.calls 1 r c A cap L r c B dap M _ w (KdX.C_of_reads (by omega) hr) hc (KdX.C_of_reads (by omega) hr') hd ?_
  have hb : ((L.length : Int) != (M.length : Int)) = true := by
    rw [bne_iff_ne]; omega
  unfold cms_Same.f
  rw [if_pos rfl, if_pos rfl, hb]
  simp only [cms_Same.j0]
  rfl
theorem same_ne {R C : Nat} (L M : List Int) (A B : Option Addr) (cap dap : Nat) (w : World) (hr : Reads w .u32 A L) (hc : L.length ≤ cap) (hr' : Reads w .u32 B M) (hd : M.length ≤ dap) (hm : L.length ≤ 100000) (gL : L.length = R * C) (gM : M.length = R * C) (hne : L ≠ M) :
    Calls Try.prog 34 #[.agg #[.int .i64 R, .int .i64 C, .slice A L.length cap], .agg #[.int .i64 R, .int .i64 C, .slice B M.length dap]] w fun e w' => e = .returned (.bool false) ∧ Ext w w' := by
  refine cms_Same.calls (L.length + 2) R C A cap L R C B dap M _ w (KdX.C_of_reads (by omega) hr) hc (KdX.C_of_reads (by omega) hr') hd ?_
  rw [same_f gL gM hm _ (by omega), decide_eq_false hne]

set_option maxHeartbeats 4000000 in
theorem most_bad (r c : Int) (L : List Int) (h : Int) (w : World) (A : Option Addr) (cap : Nat) (hr : Reads w .u32 A L) (hc : L.length ≤ cap) (hm : L.length ≤ 9223372036854775807) (hk : chkC r c L.length ≠ 0) :
    Calls Try.prog 31 #[.agg #[.int .i64 r, .int .i64 c, .slice A L.length cap], .int .u64 h] w fun e w' => e = .returned (.int .u32 0) ∧ Ext w w' := by
  have HR := Lib.hid hr
  clear hr
  go_enter Try.func31, Try.ntmps31
  go_wp2_with fail
  have B := Lib.hid (box3_new w (.int .i64 r) (.int .i64 c) (.slice A L.length cap) 49)
  have X := Lib.hid (ext_new w (.cells #[.int .i64 r, .int .i64 c, .slice A L.length cap] 49 (0, 0)))
  generalize w.alloc (.cells #[.int .i64 r, .int .i64 c, .slice A L.length cap] 49 (0, 0)) = w1 at B X ⊢
  generalize w.heap.size = gb at B ⊢
  refine (check_any r c L A cap w1 (X.out.reads HR.out) hc hm).mono ?_
  rintro e w2 ⟨rfl, hb⟩
  obtain ⟨N, hN⟩ : ∃ N, chkC r c L.length = N := ⟨_, rfl⟩
  rw [hN] at hk ⊢
  have hnb : (N != 0) = true := by simpa using hk
  clear hN
  go_wp2_with fail
  go_ret
  exact ⟨rfl, Ext.trans _ _ _ X.out hb⟩
end Go.Proofs.Ythemincohmgihaa.PCmsMerges
