import Derived.Test.YtolhhbnamldghaaProg
import Derived.Test.YtolhhbnamldghaaRelyC
import Derived.Test.YtolhhbnamldghaaBit
import Derived.WalkLawsBesides
import Derived.LoopTactic
import Derived.Outline
namespace Go.Proofs.Ytolhhbnamldghaa.Hll
open Go.RowKit Go.Proofs.Ytolhhbnamldghaa.Own Go.Proofs.Ytolhhbnamldghaa.Rely
attribute [local go_sem] max_ints min_ints

/-! ### floats -/
theorem run_quo {P : Program} (t : TypeId) (a b r : Nat) (h : Ieee.double.div a b = some r) (W : World) : (binOp .quo t (.float .f64 a) (.float .f64 b)).run P W = .ok (.float .f64 r) W := by
  have h' : FloatKind.f64.format.div a b = some r := h
  simp [binOp, Op.floatArith, h']
theorem run_add {P : Program} (t : TypeId) (a b r : Nat) (h : Ieee.double.add a b = some r) (W : World) : (binOp .add t (.float .f64 a) (.float .f64 b)).run P W = .ok (.float .f64 r) W := by
  have h' : FloatKind.f64.format.add a b = some r := h
  simp [binOp, Op.floatArith, h']
theorem run_mul {P : Program} (t : TypeId) (a b r : Nat) (h : Ieee.double.mul a b = some r) (W : World) : (binOp .mul t (.float .f64 a) (.float .f64 b)).run P W = .ok (.float .f64 r) W := by
  have h' : FloatKind.f64.format.mul a b = some r := h
  simp [binOp, Op.floatArith, h']
theorem run_feq {P : Program} (t : TypeId) (a b : Nat) (W : World) : (binOp .eql t (.float .f64 a) (.float .f64 b)).run P W = .ok (.bool (Ieee.double.order a b == some .eq)) W := by
  simp [binOp, Op.floatCmp]; rfl

/-- One register more. -/
def invF (x : Int) : Nat := (Ieee.double.div 4607182418800017408 (floatOfInt .f64 (2 ^ (min x 63).toNat))).getD 0
def stepF (s : Nat) (x : Int) : Option Nat := Ieee.double.add s (invF x)
def sumF : Nat → List Int → Option Nat
  | s, [] => some s
  | s, x :: l => (stepF s x).bind fun s' => sumF s' l
theorem inv_some : ∀ m : Fin 64, Ieee.double.div 4607182418800017408 (floatOfInt .f64 (2 ^ m.val)) = some (invF m.val) := by decide +kernel

/-- About's own value: of the sum, of how many registers. -/
def aboutF (n : Nat) (s : Nat) : Option Nat :=
  if Ieee.double.order s 0 == some .eq then some 0 else
  (Ieee.double.mul 4604480259023595110 (floatOfInt .f64 n)).bind fun a => (Ieee.double.div (floatOfInt .f64 n) s).bind fun b => Ieee.double.mul a b

set_option maxHeartbeats 1000000 in
theorem about_c (p : Int) (A : Option Addr) (c : Nat) (xs : List Int) (w : World) (hr : Reads w .u8 A xs) (hx : IsBytes xs) (hl : xs.length ≤ 1000000) (T r : Nat) (hT : sumF 0 xs = some T) (hR : aboutF xs.length T = some r) :
    Calls Try.prog 28 #[.agg #[.int .i64 p, .slice A xs.length c]] w fun e w' => e = .returned (.float .f64 r) ∧ Below w.heap.size w w' := by
  have HR := Lib.hid hr
  have HX := Lib.hid hx
  have HT := Lib.hid hT
  have HRR := Lib.hid hR
  clear hr hx hT hR
  go_enter Try.func28, Try.ntmps28
  go_wp2_with fail
  go_loopw [3, 10] (fun s i wr => ∃ (k : Nat) (b : Nat), k ≤ xs.length ∧ i = .int .i64 k ∧ s = .float .f64 b ∧ wr = w.alloc (Obj.cells #[Value.int IntKind.i64 p, Value.slice A xs.length c] 35) ∧ sumF b (xs.drop k) = some T) (fun _ i _ => xs.length - (intOf i).toNat)
  case atStart => exact ⟨0, 0, by omega, rfl, rfl, rfl, HT.out⟩
  case round =>
    obtain ⟨k, b, hk, rfl, rfl, rfl, hs⟩ := hrel
    have HS := Lib.hid hs
    clear hs
    by_cases hlt : k < xs.length
    · obtain ⟨b0, o, rfl, hblt, cx⟩ := HR.out k hlt
      have hxk : 0 ≤ xs.getD k 0 ∧ xs.getD k 0 ≤ 255 := HX.out _ (by simp [List.getD_eq_getElem?_getD, List.getElem?_eq_getElem hlt])
      have hdr : xs.drop k = xs.getD k 0 :: xs.drop (k + 1) := by rw [List.drop_eq_getElem_cons hlt]; simp [List.getD_eq_getElem?_getD, List.getElem?_eq_getElem hlt]
      have hs := HS.out
      rw [hdr] at hs
      obtain ⟨x, hx⟩ : ∃ x, xs.getD k 0 = x := ⟨_, rfl⟩
      rw [hx] at cx hxk hs
      obtain ⟨b', hb', hs'⟩ := Option.bind_eq_some_iff.1 (show (stepF b x).bind (fun s' => sumF s' (xs.drop (k + 1))) = some T from hs)
      have HS' := Lib.hid hs'
      have cx' : (w.alloc (Obj.cells #[Value.int IntKind.i64 p, Value.slice (some ⟨b0, o, none⟩) xs.length c] 35)).cell? ⟨b0, o + k, none⟩ = some (.int .u8 x) := (Below.cell ((Below.refl _ _).alloc (Nat.le_refl _) _) (p := ⟨b0, o + k, none⟩) hblt).trans cx
      have hlti : (k : Int) < (xs.length : Int) := by omega
      obtain ⟨m, hm⟩ : ∃ m : Nat, min x 63 = m := ⟨(min x 63).toNat, by omega⟩
      have hm63 : m ≤ 63 := by omega
      have hw : IntKind.u64.wrap (2 ^ m) = 2 ^ m := by
        have : (2 : Int) ^ m ≤ 2 ^ 63 := by
          have := Nat.pow_le_pow_right (show 0 < 2 by omega) hm63
          exact_mod_cast this
        rw [Bit.wrap64]; have h0 : (0 : Int) < 2 ^ m := by exact_mod_cast Nat.pow_pos (n := m) (show 0 < 2 by omega)
        omega
      have hi := inv_some ⟨m, by omega⟩
      have hiv : invF (m : Int) = invF x := by unfold invF; rw [hm, show min (m : Int) 63 = m by omega]
      have hq : ∀ W, (binOp .quo 55 (.float .f64 4607182418800017408) (.float .f64 (floatOfInt .f64 (IntKind.u64.wrap (2 ^ m))))).run Try.prog W = .ok (.float .f64 (invF x)) W := fun W => by
        rw [hw]; exact run_quo _ _ _ _ (by rw [← hiv]; exact hi) W
      have ha : ∀ W, (binOp .add 55 (.float .f64 b) (.float .f64 (invF x))).run Try.prog W = .ok (.float .f64 b') W := fun W => run_add _ _ _ _ hb' W
      clear hx cx hs hs' hb' hdr hw hi hiv HS
      go_wp2_with fail
      go_roundw
      case rel => exact ⟨k + 1, b', by omega, by go_num, rfl, trivial, HS'.out⟩
      case measure => simp [intOf]; omega
    · obtain rfl : k = xs.length := by omega
      have hb : b = T := by have := HS.out; rw [List.drop_length] at this; exact Option.some.inj this
      subst hb
      have hR := HRR.out
      unfold aboutF at hR
      have hbel : Below w.heap.size w (w.alloc (Obj.cells #[Value.int IntKind.i64 p, Value.slice A xs.length c] 35)) := (Below.refl _ _).alloc (Nat.le_refl _) _
      have HB := Lib.hid hbel
      clear hbel
      cases hz : (Ieee.double.order b 0 == some .eq) with
      | true =>
        rw [hz, if_pos rfl] at hR
        obtain rfl := Option.some.inj hR
        have he : (FloatKind.f64.format.order b 0 == some Ordering.eq) = true := hz
        clear hR hz
        go_wp2_with fail
        go_ret
        exact ⟨rfl, HB.out⟩
      | false =>
        rw [hz, if_neg (by decide)] at hR
        obtain ⟨x1, h1, hR⟩ := Option.bind_eq_some_iff.1 hR
        obtain ⟨x2, h2, h3⟩ := Option.bind_eq_some_iff.1 hR
        have he : (FloatKind.f64.format.order b 0 == some Ordering.eq) = false := hz
        have e1 : ∀ W, (binOp .mul 55 (.float .f64 4604480259023595110) (.float .f64 (floatOfInt .f64 xs.length))).run Try.prog W = .ok (.float .f64 x1) W := fun W => run_mul _ _ _ _ h1 W
        have e2 : ∀ W, (binOp .quo 55 (.float .f64 (floatOfInt .f64 xs.length)) (.float .f64 b)).run Try.prog W = .ok (.float .f64 x2) W := fun W => run_quo _ _ _ _ h2 W
        have e3 : ∀ W, (binOp .mul 55 (.float .f64 x1) (.float .f64 x2)).run Try.prog W = .ok (.float .f64 r) W := fun W => run_mul _ _ _ _ h3 W
        clear hR hz h1 h2 h3
        go_wp2_with fail
        go_ret
        exact ⟨rfl, HB.out⟩


theorem sum16 : sumF 0 (List.replicate 16 0) = some 4625196817309499392 := by decide +kernel
theorem about16 : aboutF 16 4625196817309499392 = some 4622494657533077094 := by decide +kernel
set_option maxHeartbeats 1000000 in
theorem noughts_c (p : Int) (A : Option Addr) (c : Nat) (n : Nat) (w : World) (hr : Reads w .u8 A (List.replicate n 0)) (hl : n ≤ 1000000) :
    Calls Try.prog 30 #[.agg #[.int .i64 p, .slice A n c]] w fun e w' => e = .returned (.int .i64 n) ∧ Below w.heap.size w w' := by
  have HR := Lib.hid hr
  clear hr
  go_enter Try.func30, Try.ntmps30
  go_wp2_with fail
  go_loopw [3, 9] (fun s i wr => ∃ k : Nat, k ≤ n ∧ i = .int .i64 k ∧ s = .int .i64 k ∧ wr = w.alloc (Obj.cells #[Value.int IntKind.i64 p, Value.slice A n c] 35)) (fun _ i _ => n - (intOf i).toNat)
  case atStart => exact ⟨0, by omega, rfl, rfl, rfl⟩
  case round =>
    obtain ⟨k, hk, rfl, rfl, rfl⟩ := hrel
    by_cases hlt : k < n
    · obtain ⟨b0, o, rfl, hblt, cx⟩ := HR.out k (by simpa using hlt)
      rw [show (List.replicate n (0 : Int)).getD k 0 = 0 by simp [List.getD_eq_getElem?_getD, hlt]] at cx
      have cx' : (w.alloc (Obj.cells #[Value.int IntKind.i64 p, Value.slice (some ⟨b0, o, none⟩) n c] 35)).cell? ⟨b0, o + k, none⟩ = some (.int .u8 0) := (Below.cell ((Below.refl _ _).alloc (Nat.le_refl _) _) (p := ⟨b0, o + k, none⟩) hblt).trans cx
      have hlti : (k : Int) < (n : Int) := by omega
      clear cx
      go_wp2_with fail
      go_roundw
      case rel => exact ⟨k + 1, by omega, by go_num, by go_num, trivial⟩
      case measure => simp [intOf]; omega
    · obtain rfl : k = n := by omega
      have hbel : Below w.heap.size w (w.alloc (Obj.cells #[Value.int IntKind.i64 p, Value.slice A k c] 35)) := (Below.refl _ _).alloc (Nat.le_refl _) _
      have HB := Lib.hid hbel
      clear hbel
      go_wp2_with fail
      go_ret
      exact ⟨rfl, HB.out⟩
set_option maxHeartbeats 1000000 in
theorem new_c (w : World) : Calls Try.prog 19 #[.int .i64 4] w fun e w' => ∃ g, e = .returned (.tuple #[.agg #[.int .i64 4, .slice (some ⟨g, 0, none⟩) 16 16], .bool true]) ∧ Reads w' .u8 (some ⟨g, 0, none⟩) (List.replicate 16 0) ∧ Below w.heap.size w w' := by
  have hmk : ∀ w, (Instr.makeSlice 23 (.int .i64 16) (.int .i64 16)).run Try.prog w = .ok (.slice (some ⟨w.heap.size, 0, none⟩) 16 16) (w.alloc (.cells (madeCells #[.int .u8 0] 16) 5)) := fun _ => by kernel_rfl
  go_enter Try.func19, Try.ntmps19
  go_wp2_with fail
  refine bodyPost_ret (v := .tuple #[.agg #[.int .i64 4, .slice (some ⟨w.heap.size + 1, 0, none⟩) 16 16], .bool true]) (by simp [results, Try.results19, go_sem]) rfl ⟨_, rfl, ?_, ?_⟩
  · have h := Row.made 5 .u8 16 (w.alloc (Obj.cells #[Value.int IntKind.i64 4, Value.slice (some ⟨w.heap.size + 1, 0, none⟩) 16 16] 35)) (by omega)
    have e : (w.alloc (Obj.cells #[Value.int IntKind.i64 4, Value.slice (some ⟨w.heap.size + 1, 0, none⟩) 16 16] 35)).heap.size = w.heap.size + 1 := by simp
    rw [e] at h
    exact h.readsAt
  · exact ((Below.refl _ _).alloc (Nat.le_refl _) _).alloc (by simp) _

theorem zeros16 : IsBytes (List.replicate 16 (0 : Int)) := by intro x hx; obtain ⟨_, rfl⟩ := List.mem_replicate.1 hx; omega
set_option maxHeartbeats 2000000 in
theorem awake_c (w : World) : Calls Try.prog 17 #[] w fun e w' => e = .returned (.bool true) ∧ Below w.heap.size w w' := by
  have hz := zeros16
  go_enter Try.func17, Try.ntmps17
  go_wp2_with fail
  refine (new_c w).mono ?_
  rintro e w1 ⟨g, rfl, hr, hb⟩
  have HR := Lib.hid hr
  have HB := Lib.hid hb
  clear hr hb
  go_wp2_with fail
  have hE : Below w1.heap.size w1 (w1.alloc (Obj.cells #[Value.int IntKind.i64 4, Value.slice (some ⟨g, 0, none⟩) 16 16] 35)) := (Below.refl _ _).alloc (Nat.le_refl _) _
  have c0 : (w1.alloc (Obj.cells #[Value.int IntKind.i64 4, Value.slice (some ⟨g, 0, none⟩) 16 16] 35)).cell? ⟨w1.heap.size, 0, none⟩ = some (.int .i64 4) := by rw [cell_of_row _ _ _ _ _ _ (heap_alloc_new w1 _)]; rfl
  have c1 : (w1.alloc (Obj.cells #[Value.int IntKind.i64 4, Value.slice (some ⟨g, 0, none⟩) 16 16] 35)).cell? ⟨w1.heap.size, 1, none⟩ = some (.slice (some ⟨g, 0, none⟩) 16 16) := by rw [cell_of_row _ _ _ _ _ _ (heap_alloc_new w1 _)]; rfl
  have HR2 := Lib.hid (HR.out.later hE)
  have HB2 := Lib.hid (HB.out.trans (hE.mono HB.out.size))
  clear hE
  generalize w1.alloc (Obj.cells #[Value.int IntKind.i64 4, Value.slice (some ⟨g, 0, none⟩) 16 16] 35) = w2 at c0 c1 HR2 HB2 ⊢
  refine (noughts_c 4 _ 16 16 w2 HR2.out (by omega)).mono ?_
  rintro e w3 ⟨rfl, hb⟩
  have c0' := Ext.cell hb c0
  have c1' := Ext.cell hb c1
  have HR3 := Lib.hid (HR2.out.later hb)
  have HB3 := Lib.hid (HB2.out.trans (hb.mono HB2.out.size))
  clear hb c0 c1
  go_wp2_with fail
  refine (about_c 4 _ 16 (List.replicate 16 0) w3 HR3.out hz (by decide) _ _ sum16 about16).mono ?_
  rintro e w4 ⟨rfl, hb⟩
  have c0 := Ext.cell hb c0'
  have c1 := Ext.cell hb c1'
  have HR4 := Lib.hid (HR3.out.later hb)
  have HB4 := Lib.hid (HB3.out.trans (hb.mono HB3.out.size))
  clear hb c0' c1'
  have o1 : (FloatKind.f64.format.order 4622494657533077094 4622438362537734963 == some Ordering.gt) = true := by decide +kernel
  have o2 : (FloatKind.f64.format.order 4622494657533077094 4622550952528419226 == some Ordering.lt) = true := by decide +kernel
  go_wp2_with fail
  refine (about_c 4 _ 16 (List.replicate 16 0) w4 HR4.out hz (by decide) _ _ sum16 about16).mono ?_
  rintro e w5 ⟨rfl, hb⟩
  have HB5 := Lib.hid (HB4.out.trans (hb.mono HB4.out.size))
  clear hb
  go_wp2_with fail
  go_ret
  exact ⟨rfl, HB5.out⟩
end Go.Proofs.Ytolhhbnamldghaa.Hll
