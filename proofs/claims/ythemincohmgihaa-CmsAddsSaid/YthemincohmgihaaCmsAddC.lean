/- For the law of what was added: the law's own column, the map of what came, the least count. -/
import Derived.Test.YthemincohmgihaaCmsChk
import Derived.Maps.OwnSet
import Derived.Maps.OwnOps
import Derived.Maps.RangeWalk
namespace Go.Proofs.Ythemincohmgihaa.PCmsMerges
open Go Go.RowKit Go.ChangeShapes Go.WideShapes Go.Proofs.YthemincohmgihaaW.PrintWords Go.Proofs.Ythemincohmgihaa.Own Go.Proofs.Ythemincohmgihaa.Rely
open Go.Maps (Keyed)
attribute [local go_sem] min_ints max_ints

theorem and_low (h : Int) : Go.bits .and .u64 h 4294967295 = h % 4294967296 := by
  rw [Bit.and64]
  have e : BitVec.ofInt 64 4294967295 = 4294967295#64 := rfl
  rw [e, BitVec.toNat_and, BitVec.toNat_ofInt]
  have h2 : (4294967295#64).toNat = 2 ^ 32 - 1 := rfl
  rw [h2, Nat.and_two_pow_sub_one_eq_mod]
  have : (((2 ^ 64 : Nat) : Int)) = 18446744073709551616 := rfl
  rw [this]
  omega
theorem pl_law (C : Int) (h : Int) (r : Nat) (h0 : 0 ≤ h) (h1 : h ≤ 18446744073709551615) (r1 : r ≤ 8) :
    wrap64 ((bits .xor .u64 (IntKind.u64.wrap (IntKind.u64.wrap (h / 4294967296 * (2 * (r : Int) + 1)) + h % 4294967296)) (IntKind.u64.wrap ((IntKind.u64.wrap (IntKind.u64.wrap (h / 4294967296 * (2 * (r : Int) + 1)) + h % 4294967296)).tdiv 131072))).tmod C) = pl C h r := by
  have w1 : wrap64 (2 * (r : Int)) = 2 * r := by unfold wrap64; omega
  have w2 : wrap64 (2 * (r : Int) + 1) = 2 * r + 1 := by unfold wrap64; omega
  have w3 : IntKind.u64.wrap (2 * (r : Int) + 1) = 2 * r + 1 := by rw [Bit.wrap64]; omega
  unfold pl
  rw [w1, w2, w3, and_low]
  obtain ⟨X, hX⟩ : ∃ X, IntKind.u64.wrap (IntKind.u64.wrap (h / 4294967296 * (2 * (r : Int) + 1)) + h % 4294967296) = X := ⟨_, rfl⟩
  rw [hX]
  have hx0 : 0 ≤ X ∧ X < 18446744073709551616 := by rw [← hX, Bit.wrap64]; omega
  clear hX w1 w2 w3
  have e : IntKind.u64.wrap (X.tdiv 131072) = X / 131072 := by
    rw [Int.tdiv_eq_ediv_of_nonneg hx0.1, Bit.wrap64]; omega
  rw [e]
set_option maxHeartbeats 4000000 in
theorem lawplace_c (h : Int) (r C : Nat) (w : World) (h0 : 0 ≤ h) (h1 : h ≤ 18446744073709551615) (c0 : 1 ≤ C) (c1 : C ≤ 256) (r1 : r ≤ 8) :
    Calls Try.prog 30 #[.int .u64 h, .int .i64 r, .int .i64 C] w fun e w' => e = .returned (.int .i64 (pl C h r)) ∧ Ext w w' := by
  have hu := pl_law C h r h0 h1 r1
  go_enter Try.func30, Try.ntmps30
  go_wp2_with fail
  go_ret
  refine ⟨?_, Ext.refl _⟩
  rw [← hu]
  rfl

/-! ### what came, by hash -/
def tot (x : Int) : List S54 → Int
  | [] => 0
  | s :: l => (if s.f0 = x then s.f1 else 0) + tot x l
theorem tot_append (x : Int) (l m : List S54) : tot x (l ++ m) = tot x l + tot x m := by
  induction l with
  | nil => simp [tot]
  | cons s l ih => simp only [List.cons_append, tot, ih]; omega
theorem tot_le (x : Int) : ∀ {l : List S54}, Okay l → 0 ≤ tot x l ∧ tot x l ≤ 4294967295 * (l.length : Int)
  | [], _ => ⟨Int.le_refl 0, by simp [tot]⟩
  | s :: l, h => by
    have h1 := h s List.mem_cons_self
    have h2 := tot_le x (l := l) fun y hy => h y (List.mem_cons_of_mem _ hy)
    rw [List.length_cons]
    unfold tot
    split <;> constructor <;> omega
theorem cnt_tot {C : Nat} {x : Int} {i : Nat} (hh : hit C x i = true) : ∀ {l : List S54}, Okay l → tot x l ≤ cnt C i l
  | [], _ => Int.le_refl 0
  | s :: l, h => by
    have h1 := h s List.mem_cons_self
    have h2 := cnt_tot hh (l := l) fun y hy => h y (List.mem_cons_of_mem _ hy)
    unfold tot cnt
    by_cases e : s.f0 = x
    · rw [if_pos e, e, if_pos hh]; omega
    · rw [if_neg e]
      split <;> omega
theorem least_ge {C : Nat} {x : Int} {L : List Int} {m : Int} (hm : m ≤ 4294967295) : ∀ r, (∀ q, q < r → m ≤ rd L (((q * C : Nat) : Int) + pl C x q)) → m ≤ least C x L r
  | 0, _ => hm
  | r + 1, h => by
    have h1 := least_ge hm r fun q hq => h q (by omega)
    have h2 := h r (Nat.lt_succ_self r)
    unfold least mn
    omega
theorem least_tot {R C : Nat} {l : List S54} (r0 : 1 ≤ R) (r1 : R ≤ 8) (c0 : 1 ≤ C) (c1 : C ≤ 256) (hl : Okay l) (x : Int) : ¬ least C x (sketch R C l) R < min (tot x l) 4294967295 := by
  have g := good_sketch r0 r1 c0 c1 hl
  have := least_ge (C := C) (x := x) (L := sketch R C l) (m := min (tot x l) 4294967295) (by omega) R (fun q hq => by
    obtain ⟨p, hp, hpC, hlt, _⟩ := place_nat g x hq
    have hlt' : q * C + p < (q + 1) * C := by rw [Nat.add_mul]; omega
    have hh : hit C x (q * C + p) = true := by rw [hit_at x hp hpC (by omega) hlt']; simp
    have hc := cnt_tot hh hl
    rw [hp, ← Int.natCast_add]
    unfold rd
    rw [Int.toNat_natCast, List.getD_eq_getElem?_getD, sketch_get, if_pos (by rw [← g.len]; exact hlt)]
    show _ ≤ upto (cnt C (q * C + p) l)
    unfold upto
    split <;> omega)
  omega
abbrev D1 := DataW Unit
structure MapT (D : D1) (l : List S54) : Prop where
  tidy : Maps.Tidy D
  at_ : ∀ x, D.atKey (.int .u64 x) (.lit (.int .u64 0)) = .lit (.int .u64 (tot x l))
theorem MapT.nil : MapT (.map []) [] := ⟨Maps.tidy_empty, fun _ => rfl⟩
theorem MapT.put {D : D1} {l : List S54} (h : MapT D l) (s : S54) {n : Int} (hn : n = tot s.f0 l + s.f1) : MapT (D.put (.int .u64 s.f0) (.lit (.int .u64 n))) (l ++ [s]) := by
  refine ⟨h.tidy.put (show WideAt.IsKeyLit (.int .u64 s.f0) from trivial) _, fun x => ?_⟩
  rw [tot_append]
  by_cases e : x = s.f0
  · subst e
    rw [Maps.atKey_put_same h.tidy.isMap (show WideAt.IsKeyLit (.int .u64 s.f0) from trivial), hn]
    simp [tot]
  · rw [Maps.atKey_put_other (fun q => e (by injection q)), h.at_]
    have e2 : ¬ s.f0 = x := fun q => e q.symm
    simp [tot, e2]
theorem keyed64 : Keyed Try.prog 24 := Maps.int_keyed Try.underlying24
theorem zero64 (w : World) : (zeroValue 24).run Try.prog w = .ok (.int .u64 0) w := by kernel_rfl
abbrev Own64 (w : World) (b n : Nat) (D : D1) : Prop := w.ownsMap Try.prog 24 (plainElem Try.prog 24) b n D
theorem wf64 {x : Int} (h : 0 ≤ x ∧ x ≤ 18446744073709551615) : (Lit.int .u64 x).wf = true := by
  show (decide (0 ≤ x) && decide (x ≤ 18446744073709551615)) = true
  simpa using h
theorem key64 {x : Int} (h : 0 ≤ x ∧ x ≤ 18446744073709551615) : keyOf Try.prog 24 (.int .u64 x) = some (.int .u64 x) := Maps.keyOf_int_mk Try.underlying24 (wf64 h)
theorem look64 {w : World} {b n : Nat} {D : D1} {l : List S54} (h : Own64 w b n D) (hS : MapT D l) {x : Int} (hx : 0 ≤ x ∧ x ≤ 18446744073709551615) :
    (Instr.lookup 52 (.map (some b)) (.int .u64 x) false).run Try.prog w = .ok (.int .u64 (tot x l)) w := by
  obtain ⟨c, hrun, hat, _⟩ := h.lookup_int keyed64 Try.underlying52 Try.underlying24 (zero64 w) (key64 hx)
  rw [hS.at_] at hat
  injection hat with hat
  injection hat with _ hat
  rw [hrun, hat]
theorem grown_of_ext {w w' : World} (x : Ext w w') : w.grownBy w' none := ⟨x.os, x.tape, x.output, x.size, fun i hi _ => x.block i hi⟩
theorem owns_ext {w w' : World} {b n : Nat} {D : D1} (h : Own64 w b n D) (x : Ext w w') : Own64 w' b n D := h.kept (grown_of_ext x) (by simp)
theorem ext_grown {w0 w w' : World} {b : Nat} (h : Ext w0 w) (g : w.grownBy w' (some b)) (hb : w0.heap.size ≤ b) : Ext w0 w' :=
  ⟨g.os.trans h.os, g.tape.trans h.tape, g.output.trans h.output, Nat.le_trans h.size g.size, fun i hi => (g.block i (Nat.lt_of_lt_of_le hi h.size) (fun e => by injection e with e; omega)).trans (h.block i hi)⟩
/-- The step of a range over such a map. -/
theorem next_tot {P' : Program} (hP : P' = Try.prog) (w : World) {ops : Array Oper} {rest : List Oper} {o : Oper} {a : Act} {Q : Exit → Act → World → Prop} (hg : o.guard = none) (it : Operand) (hop : o.op = Op.next it false)
    (b r n : Nat) (D : D1) (l : List S54) (hS : MapT D l) (left : Lit → Bool) (cnt : Nat) (hit : a.eval it = .pointer (some ⟨r, 0, none⟩)) (h : w.ranges Try.prog 24 (plainElem Try.prog 24) b r n D left cnt)
    (hDone : wpList P' ops Q rest (a.put o.dst (.tuple #[.bool false])) w)
    (hMore : ∀ (x c : Int) (w' : World) (cnt' : Nat) (left' : Lit → Bool), 0 ≤ x ∧ x ≤ 18446744073709551615 → c = tot x l → w'.ranges Try.prog 24 (plainElem Try.prog 24) b r n D left' cnt' → cnt' < cnt →
      w.grownBy w' (some r) → (Instr.entry (.pointer (some ⟨r, 0, none⟩))).run P' w' = .ok (.tuple #[.int .u64 x, .int .u64 c]) w' → wpList P' ops Q rest (a.put o.dst (.tuple #[.bool true, .int .u64 x, .int .u64 c])) w') : wpList P' ops Q (o :: rest) a w := by
  subst hP
  refine wpList_next_ranges_ii w hg it hop 24 24 .u64 .u64 keyed64 Try.underlying24 Try.underlying24 b r n D left cnt hit h (fun _ _ => hDone) (fun x c w' cnt' hwx hwc hlx hat hrg hlt hgr _ hen => ?_)
  have h2 := hat (.lit (.int .u64 0))
  rw [hS.at_] at h2
  injection h2 with h2
  injection h2 with _ h2
  exact hMore x c w' cnt' _ (wf_u64 hwx) h2.symm hrg hlt hgr hen
theorem seen_at {w : World} {A : Option Addr} {xs : List S54} (h : Kd.C k54 w A xs.length xs) {i : Nat} (hi : i < xs.length) : ∃ b o, A = some ⟨b, o, none⟩ ∧ w.cell? ⟨b, o + i * 2, none⟩ = some (.int .u64 (xs[i]).f0) ∧ w.cell? ⟨b, o + i * 2 + 1, none⟩ = some (.int .u32 (xs[i]).f1) := by
  obtain ⟨ad, e, h0, h1⟩ := at_T54 h (i : Int) (by omega) (by omega)
  rw [Int.toNat_natCast] at h0 h1
  have hrd : rd_T54 xs (i : Int) = xs[i] := by
    unfold rd_T54
    rw [Int.toNat_natCast, List.getD_eq_getElem?_getD, List.getElem?_eq_getElem hi]; rfl
  rw [hrd] at h0 h1
  obtain ⟨b, o, s⟩ := ad
  have hs : s = none := by
    cases s with
    | none => rfl
    | some q =>
      obtain ⟨ad0, e0, h00, _⟩ := at_T54 h 0 (by omega) (by omega)
      rw [e] at e0
      injection e0 with e0
      subst e0
      rw [show (0 : Int).toNat * 2 = 0 from rfl] at h00
      have h1 : w.cell? ⟨b, o, some q⟩ = some (.int .u64 (rd_T54 xs 0).f0) := h00
      unfold World.cell? at h1
      simp only at h1
      split at h1 <;> simp at h1
  subst hs
  rw [add_lit'] at h0 h1
  exact ⟨b, o, e, h0, h1⟩
theorem info_u64 : (Try.prog.info? 24).map (fun i => (i.zero, i.size, i.bytes)) = some (some (.int .u64 0), 1, 8) := by kernel_rfl
theorem rc_wrap {R C r n : Nat} (h : r ≤ R) (hn : R * C = n) (h2 : n ≤ 2048) : wrap64 ((r : Int) * (C : Int)) = ((r * C : Nat) : Int) := by
  have h3 : r * C ≤ R * C := Nat.mul_le_mul_right C h
  rw [← Int.natCast_mul]; unfold wrap64; omega
theorem min_pls {x n : Int} (hx : 0 ≤ x ∧ x ≤ 4294967295) (hn : 0 ≤ n ∧ n ≤ 4294967295) : min (x + n) 4294967295 = pls x n := by unfold pls; split <;> omega
theorem least_nn {R C : Nat} {L : List Int} (g : Good R C L) (h : Int) : ∀ r, 0 ≤ least C h L r
  | 0 => by unfold least; omega
  | r + 1 => by
    have h1 := least_nn g h r
    have h2 := (g.range (((r * C : Nat) : Int) + pl C h r)).1
    unfold least mn
    omega
end Go.Proofs.Ythemincohmgihaa.PCmsMerges
