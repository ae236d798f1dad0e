/- Numbers that don't fall, by their halves: what lower and Of tell. -/
import Derived.Test.YtlmelcfiegamaaaRicePut
namespace Go.Proofs.Ytlmelcfiegamaaa.Fano
open Go.RowKit Go.Proofs.Ytlmelcfiegamaaa.Own Go.Proofs.Ytlmelcfiegamaaa.Rely Go.Proofs.Ytlmelcfiegamaaa.Bits
attribute [local go_sem] max_ints min_ints

def lowG : Nat → Nat → Nat → Nat → Nat
  | 0, _, _, k => k
  | f + 1, m, x, k => if m ≤ x / 2 ^ (k + 1) then lowG f m x (k + 1) else k
/-- How many lower bits each has apart. -/
def lowerN (m x : Nat) : Nat := if m = 0 then 0 else lowG 32 m x 0
theorem lowG_spec (m x : Nat) (hm : 0 < m) (hx : x < 4294967296) : ∀ f k, k + f = 32 → (0 < k → m ≤ x / 2 ^ k) → lowG f m x k ≤ 31 ∧ x / 2 ^ (lowG f m x k + 1) < m
  | 0, k, hk, h => by
    have := h (by omega)
    obtain rfl : k = 32 := by omega
    have : x / 2 ^ 32 = 0 := Nat.div_eq_of_lt hx
    omega
  | f + 1, k, hk, h => by
    unfold lowG
    split
    · rename_i h1
      exact lowG_spec m x hm hx f (k + 1) (by omega) (fun _ => h1)
    · exact ⟨by omega, by omega⟩
theorem lowerN_spec {m x : Nat} (hm : 0 < m) (hx : x < 4294967296) : lowerN m x ≤ 31 ∧ x / 2 ^ (lowerN m x + 1) < m := by
  unfold lowerN
  rw [if_neg (by omega)]
  exact lowG_spec m x hm hx 32 0 rfl (fun h => absurd h (Nat.lt_irrefl 0))
theorem up_lt {m x : Nat} (hm : 0 < m) (hx : x < 4294967296) : x / 2 ^ lowerN m x < 2 * m := by
  have h := (lowerN_spec hm hx).2
  rw [Nat.pow_succ, ← Nat.div_div_eq_div_mul] at h
  omega

set_option maxHeartbeats 1000000 in
theorem lower_c (m x : Nat) (hm : m ≤ 1000000) (hx : x < 4294967296) (w : World) :
    Calls Try.prog 46 #[.int .i64 m, .int .u32 x] w fun e w' => e = .returned (.int .i64 (lowerN m x)) ∧ w' = w := by
  by_cases h0 : m = 0
  · subst h0
    go_enter Try.func46, Try.ntmps46
    go_wp2_with fail
    go_loopw [5] (fun v wr => v = .int .i64 0 ∧ wr = w) (fun _ _ => 0)
    case atStart => exact ⟨rfl, rfl⟩
    case round =>
      obtain ⟨rfl, rfl⟩ := hrel
      go_wp2_with fail
      go_ret
      exact ⟨rfl, rfl⟩
  have HS := Lib.hid (show lowG 32 m x 0 = lowerN m x by unfold lowerN; rw [if_neg h0])
  have hm0 : (0 : Int) < (m : Int) := by omega
  go_enter Try.func46, Try.ntmps46
  go_wp2_with fail
  go_loopw [5] (fun v wr => ∃ (f k : Nat), k + f = 32 ∧ v = .int .i64 k ∧ lowG f m x k = lowerN m x ∧ wr = w) (fun v _ => 32 - (intOf v).toNat)
  case atStart => exact ⟨32, 0, rfl, rfl, HS.out, rfl⟩
  case round =>
    obtain ⟨f, k, hk, rfl, hl, rfl⟩ := hrel
    obtain ⟨Q, hQ⟩ : ∃ Q, x / 2 ^ (k + 1) = Q := ⟨_, rfl⟩
    have hxQ : (x : Int) / 2 ^ (k + 1) = (Q : Int) := by rw [← hQ, Int.natCast_ediv, Int.natCast_pow]; rfl
    by_cases hq : m ≤ Q
    · obtain ⟨f, rfl⟩ : ∃ q, f = q + 1 := ⟨f - 1, by
        have : f ≠ 0 := by
          rintro rfl
          obtain rfl : k = 32 := by omega
          have : x / 2 ^ (32 + 1) = 0 := Nat.div_eq_of_lt (by omega)
          omega
        omega⟩
      have HL := Lib.hid (show lowG f m x (k + 1) = lowerN m x by rw [← hl]; show _ = if m ≤ x / 2 ^ (k + 1) then _ else _; rw [if_pos (by omega)])
      have hd : decide ((m : Int) ≤ (Q : Int)) = true := by simp; omega
      clear hl hQ
      go_wp2_with fail
      exact ⟨⟨f, k + 1, by omega, by go_num, HL.out, trivial⟩, by simp [intOf]; omega⟩
    · have HL := Lib.hid (show k = lowerN m x by
        rw [← hl]
        cases f with
        | zero => rfl
        | succ f => show _ = if m ≤ x / 2 ^ (k + 1) then _ else _; rw [if_neg (by omega)])
      have hd : decide ((m : Int) ≤ (Q : Int)) = false := by simp; omega
      clear hl hQ
      go_wp2_with fail
      go_ret
      exact ⟨by rw [← HL.out]; rfl, rfl⟩

/-! ### Of -/
/-- Numbers that don't fall. -/
def NF (l : List Int) : Prop := ∀ i, i + 1 < l.length → l.getD i 0 ≤ l.getD (i + 1) 0
def U32s (l : List Int) : Prop := ∀ x ∈ l, 0 ≤ x ∧ x ≤ 4294967295
theorem U32s.at {l : List Int} (h : U32s l) {i : Nat} (hi : i < l.length) : 0 ≤ l.getD i 0 ∧ l.getD i 0 ≤ 4294967295 :=
  h _ (by simp [List.getD_eq_getElem?_getD, List.getElem?_eq_getElem hi])
theorem nf_le {l : List Int} (h : NF l) {i j : Nat} (hij : i ≤ j) (hj : j < l.length) : l.getD i 0 ≤ l.getD j 0 := by
  obtain ⟨d, rfl⟩ : ∃ d, j = i + d := ⟨j - i, by omega⟩
  induction d with
  | zero => exact Int.le_refl _
  | succ d ih => exact Int.le_trans (ih (by omega) (by omega)) (h (i + d) hj)
def val (l : List Int) (i : Nat) : Nat := (l.getD i 0).toNat
def lastN (l : List Int) : Nat := val l (l.length - 1)
def upN (k : Nat) (l : List Int) (i : Nat) : Nat := val l i / 2 ^ k
/-- The number ahead's higher bits. -/
def wasN (k : Nat) (l : List Int) : Nat → Nat
  | 0 => 0
  | i + 1 => upN k l i
def lowT (k : Nat) (l : List Int) : Nat → List Bool
  | 0 => []
  | i + 1 => lowT k l i ++ bitsOf (val l i) k
def highT (k : Nat) (l : List Int) : Nat → List Bool
  | 0 => []
  | i + 1 => highT k l i ++ List.replicate (upN k l i - wasN k l i) true ++ [false]
theorem lowT_len (k : Nat) (l : List Int) : ∀ i, (lowT k l i).length = i * k
  | 0 => by simp [lowT]
  | i + 1 => by rw [lowT, List.length_append, lowT_len k l i, bitsOf_length, Nat.succ_mul]
theorem val_le {l : List Int} (h : NF l) {i j : Nat} (hij : i ≤ j) (hj : j < l.length) : val l i ≤ val l j := by
  have := nf_le h hij hj; unfold val; omega
theorem up_le {l : List Int} (h : NF l) (k : Nat) {i j : Nat} (hij : i ≤ j) (hj : j < l.length) : upN k l i ≤ upN k l j := Nat.div_le_div_right (val_le h hij hj)
theorem was_le {l : List Int} (h : NF l) (k : Nat) {i : Nat} (hi : i < l.length) : wasN k l i ≤ upN k l i := by
  cases i with
  | zero => exact Nat.zero_le _
  | succ i => exact up_le h k (Nat.le_succ i) hi
theorem highT_len {l : List Int} (h : NF l) (k : Nat) : ∀ i, i ≤ l.length → (highT k l i).length = i + wasN k l i
  | 0, _ => rfl
  | i + 1, hi => by
    rw [highT, List.length_append, List.length_append, highT_len h k i (by omega), List.length_replicate, List.length_singleton]
    have := was_le h k (i := i) (by omega)
    show _ = i + 1 + upN k l i
    omega
/-- A row's fields, by the numbers. -/
def lowF (l : List Int) : Nat := lowerN l.length (lastN l)
def lowsF (l : List Int) : List Int := pack (lowT (lowF l) l l.length)
def highF (l : List Int) : List Int := pack (highT (lowF l) l l.length)
theorem up_bound {l : List Int} (h : NF l) (hu : U32s l) {i : Nat} (hi : i < l.length) : upN (lowF l) l i < 2 * l.length := by
  have hl := hu.at (i := l.length - 1) (by omega)
  have h1 : lastN l < 4294967296 := by unfold lastN val; omega
  exact Nat.lt_of_le_of_lt (up_le h _ (show i ≤ l.length - 1 by omega) (by omega)) (up_lt (by omega) h1)

set_option maxHeartbeats 1000000 in
theorem bbytes_tri (p : Nat) (L : List Bool) (hL : L.length ≤ 1000000000) : Tri Try.prog 49 #[.pointer (some ⟨p, 0, none⟩)] (BW p L)
    (fun e => Some fun v => Fact (e = .returned v) (Sep (Row 5 .u8 v (pack L)) (BW p L))) := by
  intro w S h
  obtain ⟨A, c, c0, _, hr⟩ := bw_c h
  have hpl := pack_length L
  have hpb : (pack L).length ≤ 1000000000 := by omega
  have hB := sepEmpty (loc_bw p L) h 5 .u8
  have c4 : (w.alloc (.cells #[] 5)).cell? ⟨p, 0, none⟩ = some (.slice A (pack L).length c) := (((Below.refl w.heap.size w).alloc (Nat.le_refl _) (.cells #[] 5)).cell (p := ⟨p, 0, none⟩) (World.block_lt_of_cell? w _ c0)).trans c0
  have HR := Lib.hid (hr.later (w' := w.alloc (.cells #[] 5)) ((Below.refl _ _).alloc (Nat.le_refl _) _))
  have H := Lib.hid hB
  clear h hB hr hpl
  generalize pack L = P at c0 c4 HR H hpb
  go_enter Try.func49, Try.ntmps49
  go_wp2_with (at_builtin; refine append_row _ rfl _ _ 27 rfl 5 .u8 1 Try.underlying27 Bits.info_u8 (by decide) _ [] P A P.length c rfl rfl rfl (loc_bw p L) H.out.1 HR.out (by simp; omega) ?_; intro A' c' w' S' h' st'; have H' := Lib.hid h'; have ST' := Lib.hid st'; clear h' st')
  go_ret
  have h5 := H'.out
  simp only [List.length_nil, Nat.zero_add, List.nil_append] at h5
  exact ⟨S', ⟨.slice A' P.length c', rfl, h5⟩, H.out.2.trans ST'.out⟩

theorem rows_blocks {R5 R6 : Asn} {p1 p0 : Nat} {c1 c0 : Array Value} {t1 t0 : TypeId} {w : World} {S : Nat → Prop} (h : Sep R5 (Sep R6 (Sep (Blk p1 c1 t1) (Sep (Blk p0 c0 t0) Emp))) w S) :
    ∃ SR, Sep R5 R6 w SR ∧ ¬ p1 = p0 ∧ w.heap[p1]? = some (.cells c1 t1 (0, 0)) ∧ w.heap[p0]? = some (.cells c0 t0 (0, 0)) ∧ (∀ x, SR x → S x ∧ ¬ x = p1 ∧ ¬ x = p0) ∧ S p1 ∧ S p0 := by
  obtain ⟨S1, S2, a, h2, d, e⟩ := h
  obtain ⟨S3, S4, b, h3, d3, e3⟩ := h2
  obtain ⟨S5, S6, b1, h4, d5, e5⟩ := h3
  obtain ⟨S7, S8, b0, _, d7, e7⟩ := h4
  have m1 : S5 p1 := (b1.2 p1).2 rfl
  have m0 : S6 p0 := (e7 p0).2 (.inl ((b0.2 p0).2 rfl))
  have k1 : S4 p1 := (e5 p1).2 (.inl m1)
  have k0 : S4 p0 := (e5 p0).2 (.inr m0)
  refine ⟨fun x => S1 x ∨ S3 x, ⟨S1, S3, a, b, fun k x y => d k x ((e3 k).2 (.inl y)), fun _ => Iff.rfl⟩, fun q => ?_, b1.1, b0.1, fun x hx => ⟨?_, ?_, ?_⟩, (e p1).2 (.inr ((e3 p1).2 (.inr k1))), (e p0).2 (.inr ((e3 p0).2 (.inr k0)))⟩
  · rw [q] at m1; exact d5 p0 m1 m0
  · rcases hx with hx | hx
    · exact (e x).2 (.inl hx)
    · exact (e x).2 (.inr ((e3 x).2 (.inl hx)))
  · rintro rfl
    rcases hx with hx | hx
    · exact d _ hx ((e3 _).2 (.inr k1))
    · exact d3 _ hx k1
  · rintro rfl
    rcases hx with hx | hx
    · exact d _ hx ((e3 _).2 (.inr k0))
    · exact d3 _ hx k0
/-- Rows and blocks stay, the writers go. -/
theorem drop2 {R5 R6 B3 B2 D : Asn} {w : World} {S : Nat → Prop} (h : Sep R5 (Sep R6 (Sep B3 (Sep B2 D))) w S) : ∃ S', Sep R5 (Sep R6 D) w S' ∧ ∀ x, S' x → S x := by
  obtain ⟨S1, S2, a, h2, d, e⟩ := h
  obtain ⟨S3, S4, b, h3, d3, e3⟩ := h2
  obtain ⟨S5, S6, _, h4, d5, e5⟩ := h3
  obtain ⟨S7, S8, _, f, d7, e7⟩ := h4
  have k4 : ∀ x, S8 x → S4 x := fun x hx => (e5 x).2 (.inr ((e7 x).2 (.inr hx)))
  refine ⟨fun k => S1 k ∨ (S3 k ∨ S8 k), ⟨S1, fun k => S3 k ∨ S8 k, a, ⟨S3, S8, b, f, fun k x y => d3 k x (k4 k y), fun _ => Iff.rfl⟩, fun k x y => d k x ((e3 k).2 (y.imp id (k4 k))), fun _ => Iff.rfl⟩, fun x hx => ?_⟩
  rcases hx with hx | hx | hx
  · exact (e x).2 (.inl hx)
  · exact (e x).2 (.inr ((e3 x).2 (.inl hx)))
  · exact (e x).2 (.inr ((e3 x).2 (.inr (k4 x hx))))
set_option maxHeartbeats 8000000 in
set_option maxRecDepth 20000 in
theorem of_nf (A : Option Addr) (c : Nat) (l : List Int) (w : World) (hr : Reads w .u32 A l) (hl : l.length ≤ 4096) (h0 : 0 < l.length) (hu : U32s l) (hnf : NF l) :
    Calls Try.prog 17 #[.slice A l.length c] w fun e w' => ∃ A1 c1 A2 c2 S', e = .returned (.tuple #[.agg #[.int .i64 l.length, .int .u32 (lastN l), .int .i64 (lowF l), .slice A1 (lowsF l).length c1, .slice A2 (highF l).length c2], .int .i64 0]) ∧
      Sep (Row 5 .u8 (.slice A1 (lowsF l).length c1) (lowsF l)) (Row 5 .u8 (.slice A2 (highF l).length c2) (highF l)) w' S' ∧ Step (fun _ => False) S' w w' := by
  have HR := Lib.hid hr
  have HU := Lib.hid hu
  have HN := Lib.hid hnf
  have hlast := hu.at (i := l.length - 1) (by omega)
  obtain ⟨X, hX⟩ : ∃ X : Nat, l.getD (l.length - 1) 0 = X := ⟨(l.getD (l.length - 1) 0).toNat, by omega⟩
  have HLX := Lib.hid (show lastN l = X by unfold lastN val; rw [hX]; rfl)
  have hX4 : X < 4294967296 := by omega
  obtain ⟨b, o, rfl, hbl, cl⟩ := hr (l.length - 1) (by omega)
  rw [hX] at cl
  have hi1 : (l.length : Int) - 1 = ((l.length - 1 : Nat) : Int) := by omega
  have hz : ((l.length : Int) == 0) = false := by rw [beq_eq_false_iff_ne]; omega
  clear hr hu hnf hlast hX
  go_enter Try.func17, Try.ntmps17
  go_wp2_with fail
  refine (lower_c l.length X (by omega) hX4 _).mono ?_
  rintro e w1 ⟨rfl, rfl⟩
  have HK := Lib.hid (show lowF l = lowerN l.length X by unfold lowF; rw [HLX.out])
  rw [← HK.out]
  go_wp2_with fail
  have n0 := Sep.alloc Lcl.emp (w := w) (S := fun _ => False) (fun _ x => x) #[.int .i64 0, .int .u32 0, .int .i64 0, .slice none 0 0, .slice none 0 0] 29
  have n1 := Sep.alloc ((Lcl.blk _ _ _).sep Lcl.emp) n0.1 #[.int .i64 l.length, .int .u32 X, .int .i64 (lowF l), .slice none 0 0, .slice none 0 0] 29
  have n2 := new_bw ((Lcl.blk _ _ _).sep ((Lcl.blk _ _ _).sep Lcl.emp)) n1.1
  have n3 := new_bw ((loc_bw _ _).sep ((Lcl.blk _ _ _).sep ((Lcl.blk _ _ _).sep Lcl.emp))) n2.1
  have H3 := Lib.hid n3.1
  have ST3 := Lib.hid (((n0.2.trans n1.2).trans n2.2).trans n3.2)
  clear n0 n1 n2 n3
  have z1 : (w.alloc (.cells #[.int .i64 0, .int .u32 0, .int .i64 0, .slice none 0 0, .slice none 0 0] 29)).heap.size = w.heap.size + 1 := by simp
  have z2 : ((w.alloc (.cells #[.int .i64 0, .int .u32 0, .int .i64 0, .slice none 0 0, .slice none 0 0] 29)).alloc (.cells #[.int .i64 l.length, .int .u32 X, .int .i64 (lowF l), .slice none 0 0, .slice none 0 0] 29)).heap.size = w.heap.size + 1 + 1 := by simp
  have z3 : (((w.alloc (.cells #[.int .i64 0, .int .u32 0, .int .i64 0, .slice none 0 0, .slice none 0 0] 29)).alloc (.cells #[.int .i64 l.length, .int .u32 X, .int .i64 (lowF l), .slice none 0 0, .slice none 0 0] 29)).alloc (.cells #[.slice none 0 0, .int .i64 0] 83)).heap.size = w.heap.size + 1 + 1 + 1 := by simp
  rw [z3, z2, z1] at H3 ST3
  clear z1 z2 z3
  have hp3 : w.heap.size + 1 + 1 + 1 ≤ w.heap.size + 3 := Nat.le_refl _
  clear hp3
  generalize (((w.alloc (.cells #[.int .i64 0, .int .u32 0, .int .i64 0, .slice none 0 0, .slice none 0 0] 29)).alloc (.cells #[.int .i64 l.length, .int .u32 X, .int .i64 (lowF l), .slice none 0 0, .slice none 0 0] 29)).alloc (.cells #[.slice none 0 0, .int .i64 0] 83)).alloc (.cells #[.slice none 0 0, .int .i64 0] 83) = w3 at H3 ST3 ⊢
  generalize w.heap.size + 1 + 1 + 1 = p3 at H3 ST3 ⊢
  generalize w.heap.size + 1 + 1 = p2 at H3 ST3 ⊢
  generalize w.heap.size + 1 = p1 at H3 ST3 ⊢
  generalize w.heap.size = p0 at H3 ST3 ⊢
  have hk31 : lowF l ≤ 31 := by rw [HK.out]; exact (lowerN_spec h0 hX4).1
  have HUB := Lib.hid (fun (i : Nat) (hi : i < l.length) => up_bound HN.out HU.out hi)
  generalize hkk : lowF l = k at H3 ST3 hk31 HUB ⊢
  have HKK := Lib.hid hkk
  clear hkk
  go_loopw [7, 40] (fun wv v wr => ∃ (i : Nat) (S' : Nat → Prop), i ≤ l.length ∧ v = .int .i64 i ∧ wv = .int .u32 (wasN k l i) ∧ Sep (BW p3 (highT k l i)) (Sep (BW p2 (lowT k l i)) (Sep (Blk p1 #[.int .i64 l.length, .int .u32 X, .int .i64 k, .slice none 0 0, .slice none 0 0] 29) (Sep (Blk p0 #[.int .i64 0, .int .u32 0, .int .i64 0, .slice none 0 0, .slice none 0 0] 29) Emp))) wr S' ∧ Step (fun _ => False) S' w wr) (fun _ v _ => l.length - (intOf v).toNat)
  case atStart => exact ⟨0, _, Nat.zero_le _, rfl, rfl, H3.out, ST3.out⟩
  case round =>
    clear H3 ST3
    obtain ⟨i, S', hi, rfl, rfl, hw, hst⟩ := hrel
    have HW := Lib.hid hw
    have ST := Lib.hid hst
    clear hw hst
    by_cases hlt : i < l.length
    · have HE := Lib.hid (below_of ST.out)
      obtain ⟨b', o', e, hbl', cx⟩ := (HR.out.later HE.out).at hlt
      injection e with e
      injection e with e1 e2 _
      subst e1 e2
      have hx := HU.out.at hlt
      obtain ⟨n, hn⟩ : ∃ n : Nat, l.getD i 0 = n := ⟨(l.getD i 0).toNat, by omega⟩
      have hvn : val l i = n := by unfold val; rw [hn]; rfl
      rw [hn] at cx hx
      have HNI := Lib.hid hn
      have hn4 : n < 4294967296 := by omega
      have c2 : wr.cell? ⟨p1, 2, none⟩ = some (.int .i64 k) := by
        obtain ⟨T, hT, _⟩ := (Wire.third HW.out).left
        exact hT.cell 2
      obtain ⟨U, hU⟩ : ∃ U, n / 2 ^ k = U := ⟨_, rfl⟩
      have hnU : (n : Int) / 2 ^ k = (U : Int) := by rw [← hU, Int.natCast_ediv, Int.natCast_pow]; rfl
      have huU : upN k l i = U := by unfold upN; rw [hvn, hU]
      have hwu := was_le HN.out k hlt
      have hub := HUB.out i hlt
      have HLT := Lib.hid (show lowT k l (i + 1) = lowT k l i ++ bitsOf n k by rw [lowT, hvn])
      have HHT := Lib.hid (show highT k l (i + 1) = highT k l i ++ List.replicate (((U - wasN k l i : Nat) : Int)).toNat true ++ [false] by rw [highT, huU]; rfl)
      have HWS := Lib.hid (show wasN k l (i + 1) = U from huU)
      have hll := lowT_len k l i
      have hhl := highT_len HN.out k i (by omega)
      rw [huU] at hwu hub
      clear huU hvn hU hn
      have hll2 : (lowT k l i).length ≤ 200000 := by
        rw [hll]
        have : i * k ≤ 4096 * 31 := Nat.mul_le_mul (by omega) hk31
        omega
      have hhl2 : (highT k l i).length ≤ 20000 := by omega
      clear hll hhl
      generalize lowT k l i = L at HW HLT hll2 ⊢
      generalize highT k l i = M at HW HHT hhl2 ⊢
      generalize wasN k l i = V at HHT hwu ⊢
      have hsub : IntKind.u32.wrap ((U : Int) - (V : Int)) = ((U - V : Nat) : Int) := by
        have : IntKind.u32.wrap ((U : Int) - (V : Int)) = ((U : Int) - (V : Int)) % 4294967296 := by simp [IntKind.wrap, IntKind.bits, IntKind.signed]
        rw [this]; omega
      have hlti : (i : Int) < (l.length : Int) := by omega
      have hcase : i = 0 ∨ ∃ q z, i = q + 1 ∧ wr.cell? ⟨b, o + q, none⟩ = some (.int .u32 z) ∧ decide ((n : Int) < z) = false := by
        cases i with
        | zero => exact .inl rfl
        | succ q =>
          obtain ⟨b', o', e, _, cz⟩ := (HR.out.later HE.out).at (i := q) (by omega)
          injection e with e
          injection e with e1 e2 _
          subst e1 e2
          have := HN.out q hlt
          refine .inr ⟨q, _, rfl, cz, by rw [decide_eq_false_iff_not, ← HNI.out]; omega⟩
      rcases hcase with rfl | ⟨q, z, rfl, cz, hd⟩
      · rw [Nat.add_zero] at cx
        have hlti0 : (0 : Int) < (l.length : Int) := by omega
        clear hlti
        go_wp2_with fail
        refine (((put_gen p2 L n k k (by omega) (by omega) (by omega) (by omega)).frame ((loc_bw _ _).sep ((Lcl.blk _ _ _).sep ((Lcl.blk _ _ _).sep Lcl.emp)))) _ _ HW.out.second).mono ?_
        rintro e w5 ⟨S5, hf5, st5⟩
        obtain ⟨rfl, h5⟩ := Sep.fact hf5
        have H5 := Lib.hid h5.second
        have ST5 := Lib.hid (ST.out.trans st5)
        have c2' : w5.cell? ⟨p1, 2, none⟩ = some (.int .i64 k) := by
          obtain ⟨T, hT, _⟩ := (Wire.third H5.out).left
          exact hT.cell 2
        clear hf5 h5 st5 c2
        go_wp2_with fail
        refine (((unary_tri p3 M ((U - V : Nat) : Int) (by omega) (by omega) (by omega)).frame ((loc_bw _ _).sep ((Lcl.blk _ _ _).sep ((Lcl.blk _ _ _).sep Lcl.emp)))) _ _ H5.out).mono ?_
        rintro e w6 ⟨S6, hf6, st6⟩
        obtain ⟨rfl, h6⟩ := Sep.fact hf6
        have H6 := Lib.hid h6
        have ST6 := Lib.hid (ST5.out.trans st6)
        have c2 : w6.cell? ⟨p1, 2, none⟩ = some (.int .i64 k) := by
          obtain ⟨T, hT, _⟩ := (Wire.third H6.out).left
          exact hT.cell 2
        clear hf6 h6 st6 c2'
        go_wp2_with fail
        go_roundw
        case rel => exact ⟨1, S6, by omega, by go_num, by rw [HWS.out], by rw [HLT.out, HHT.out]; exact H6.out, ST6.out⟩
        case measure => simp [intOf]; omega
      · have cx' : wr.cell? ⟨b, o + q + 1, none⟩ = some (.int .u32 n) := by rw [Nat.add_assoc]; exact cx
        go_wp2_with fail
        refine (((put_gen p2 L n k k (by omega) (by omega) (by omega) (by omega)).frame ((loc_bw _ _).sep ((Lcl.blk _ _ _).sep ((Lcl.blk _ _ _).sep Lcl.emp)))) _ _ HW.out.second).mono ?_
        rintro e w5 ⟨S5, hf5, st5⟩
        obtain ⟨rfl, h5⟩ := Sep.fact hf5
        have H5 := Lib.hid h5.second
        have ST5 := Lib.hid (ST.out.trans st5)
        have c2' : w5.cell? ⟨p1, 2, none⟩ = some (.int .i64 k) := by
          obtain ⟨T, hT, _⟩ := (Wire.third H5.out).left
          exact hT.cell 2
        clear hf5 h5 st5 c2
        go_wp2_with fail
        refine (((unary_tri p3 M ((U - V : Nat) : Int) (by omega) (by omega) (by omega)).frame ((loc_bw _ _).sep ((Lcl.blk _ _ _).sep ((Lcl.blk _ _ _).sep Lcl.emp)))) _ _ H5.out).mono ?_
        rintro e w6 ⟨S6, hf6, st6⟩
        obtain ⟨rfl, h6⟩ := Sep.fact hf6
        have H6 := Lib.hid h6
        have ST6 := Lib.hid (ST5.out.trans st6)
        have c2 : w6.cell? ⟨p1, 2, none⟩ = some (.int .i64 k) := by
          obtain ⟨T, hT, _⟩ := (Wire.third H6.out).left
          exact hT.cell 2
        clear hf6 h6 st6 c2'
        go_wp2_with fail
        go_roundw
        case rel => exact ⟨q + 2, S6, by omega, by go_num, by rw [HWS.out], by rw [HLT.out, HHT.out]; exact H6.out, ST6.out⟩
        case measure => simp [intOf]; omega
    · obtain rfl : i = l.length := by omega
      have hll := lowT_len k l l.length
      have hhl := highT_len HN.out k l.length (Nat.le_refl _)
      have hll2 : (lowT k l l.length).length ≤ 200000 := by
        rw [hll]
        have : l.length * k ≤ 4096 * 31 := Nat.mul_le_mul (by omega) hk31
        omega
      have hwl : wasN k l l.length ≤ 8192 := by
        cases hn : l.length with
        | zero => exact Nat.zero_le _
        | succ q =>
          have := HUB.out q (by omega)
          show upN k l q ≤ 8192
          omega
      have hhl2 : (highT k l l.length).length ≤ 20000 := by omega
      have HLF := Lib.hid (show lowsF l = pack (lowT k l l.length) by unfold lowsF; rw [HKK.out])
      have HHF := Lib.hid (show highF l = pack (highT k l l.length) by unfold highF; rw [HKK.out])
      clear hll hhl hwl
      generalize lowT k l l.length = L at HW hll2 HLF
      generalize highT k l l.length = M at HW hhl2 HHF
      go_wp2_with fail
      rename_i Kd hKd K0 hK0 K1 hK1
      clear hKd
      refine (((bbytes_tri p2 L (by omega)).frame ((loc_bw _ _).sep ((Lcl.blk _ _ _).sep ((Lcl.blk _ _ _).sep Lcl.emp)))) _ _ HW.out.second).mono ?_
      rintro e w5 ⟨S5, hf5, st5⟩
      obtain ⟨v5, hf5⟩ := Sep.some hf5
      obtain ⟨rfl, h5⟩ := Sep.fact hf5
      have H5 := Lib.hid h5
      have ST5 := Lib.hid (ST.out.trans st5)
      clear hf5 h5 st5 HW ST
      have h5 := Wire.third (Sep.assoc H5.out)
      have H5' := Lib.hid h5
      clear h5 H5
      go_wp2_with fail
      refine (((bbytes_tri p3 M (by omega)).frame ((Lcl.row _ _ _ _).sep ((loc_bw _ _).sep ((Lcl.blk _ _ _).sep ((Lcl.blk _ _ _).sep Lcl.emp))))) _ _ H5'.out).mono ?_
      rintro e w6 ⟨S6, hf6, st6⟩
      obtain ⟨v6, hf6⟩ := Sep.some hf6
      obtain ⟨rfl, h6⟩ := Sep.fact hf6
      have h7 := Sep.assoc h6
      have ST6 := Lib.hid (ST5.out.trans st6)
      clear hf6 st6 H5' ST5 h6
      -- Row v6, BW p3, Row v5, BW p2, p1, p0
      have h8 := drop2 (Wire.third h7)
      obtain ⟨S8, h8, hs8⟩ := h8
      have ST8 := Lib.hid (ST6.out.less hs8)
      have H8 := Lib.hid h8
      clear h7 h8 hs8 ST6
      obtain ⟨A5, c5, rfl, _⟩ : ∃ A c, v5 = .slice A (pack L).length c ∧ True := by
        obtain ⟨T, hT, _⟩ := H8.out.left
        obtain ⟨A, c, e, _⟩ := hT.shape
        exact ⟨A, c, e, trivial⟩
      obtain ⟨A6, c6, rfl, _⟩ : ∃ A c, v6 = .slice A (pack M).length c ∧ True := by
        obtain ⟨T, hT, _⟩ := H8.out.second.left
        obtain ⟨A, c, e, _⟩ := hT.shape
        exact ⟨A, c, e, trivial⟩
      clear hf5 hf6
      obtain ⟨SR, hR2, hpp, hB1, hB0, hsb⟩ := rows_blocks H8.out
      have HRR := Lib.hid hR2
      have HSB := Lib.hid hsb
      have hB1' : Blk p1 #[.int .i64 l.length, .int .u32 X, .int .i64 k, .slice none 0 0, .slice none 0 0] 29 w6 (fun q => q = p1) := ⟨hB1, fun _ => Iff.rfl⟩
      have hB0' : Blk p0 #[.int .i64 0, .int .u32 0, .int .i64 0, .slice none 0 0, .slice none 0 0] 29 w6 (fun q => q = p0) := ⟨hB0, fun _ => Iff.rfl⟩
      have d0 : w6.cell? ⟨p1, 0, none⟩ = some (.int .i64 l.length) := hB1'.cell 0
      have d1 : w6.cell? ⟨p1, 1, none⟩ = some (.int .u32 X) := hB1'.cell 1
      have d2 : w6.cell? ⟨p1, 2, none⟩ = some (.int .i64 k) := hB1'.cell 2
      have d3 : w6.cell? ⟨p1, 3, none⟩ = some (.slice none 0 0) := hB1'.cell 3
      have d4 : w6.cell? ⟨p1, 4, none⟩ = some (.slice none 0 0) := hB1'.cell 4
      have g3 := hB1'.free 3
      have g4 := hB1'.free 4
      have e0 : w6.cell? ⟨p0, 0, none⟩ = some (.int .i64 0) := hB0'.cell 0
      have e1 : w6.cell? ⟨p0, 1, none⟩ = some (.int .u32 0) := hB0'.cell 1
      have e2 : w6.cell? ⟨p0, 2, none⟩ = some (.int .i64 0) := hB0'.cell 2
      have e3 : w6.cell? ⟨p0, 3, none⟩ = some (.slice none 0 0) := hB0'.cell 3
      have e4 : w6.cell? ⟨p0, 4, none⟩ = some (.slice none 0 0) := hB0'.cell 4
      have f0 := hB0'.free 0
      have f1 := hB0'.free 1
      have f2 := hB0'.free 2
      have f3 := hB0'.free 3
      have f4 := hB0'.free 4
      have hpp' : ¬ p0 = p1 := fun e => hpp e.symm
      clear hB1 hB0 hB1' hB0' hR2 hsb H8
      go_wp2_with fail
      have kk : Keep (fun q => q = p1 ∨ q = p0) w6 (((((((w6.setCell ⟨p1, 3, none⟩ (.slice A5 (pack L).length c5)).setCell ⟨p1, 4, none⟩ (.slice A6 (pack M).length c6)).setCell ⟨p0, 0, none⟩ (.int .i64 l.length)).setCell ⟨p0, 1, none⟩ (.int .u32 X)).setCell ⟨p0, 2, none⟩ (.int .i64 k)).setCell ⟨p0, 3, none⟩ (.slice A5 (pack L).length c5)).setCell ⟨p0, 4, none⟩ (.slice A6 (pack M).length c6)) :=
        (((((((Keep.refl _ _).setCell (fun _ => .inl rfl) _).setCell (fun _ => .inl rfl) _).setCell (fun _ => .inr rfl) _).setCell (fun _ => .inr rfl) _).setCell (fun _ => .inr rfl) _).setCell (fun _ => .inr rfl) _).setCell (fun _ => .inr rfl) _
      have hb := HSB.out
      refine bodyPost_ret (v := .tuple #[.agg #[.int .i64 l.length, .int .u32 X, .int .i64 k, .slice A5 (pack L).length c5, .slice A6 (pack M).length c6], .int .i64 0]) (by simp [results, Try.results17, go_sem, hpp, hpp', d0, d1, d2, d3, d4, e0, e1, e2, e3, e4]) rfl ⟨A5, c5, A6, c6, SR, by rw [HLX.out, HKK.out, HLF.out, HHF.out], ?_, ?_⟩
      · rw [HLF.out, HHF.out]
        have hlc := (Lcl.row 5 .u8 (.slice A5 (pack L).length c5) (pack L)).sep (Lcl.row 5 .u8 (.slice A6 (pack M).length c6) (pack M))
        exact hlc.keep HRR.out fun q hq => kk.block q (hlc.lt HRR.out hq) (fun e => e.elim (hb.1 q hq).2.1 (hb.1 q hq).2.2)
      · refine ⟨ST8.out.keep.trans kk (fun _ _ q => q) (fun x hx q => ?_), fun x hx => .inr ((ST8.out.fresh x (hb.1 x hx).1).resolve_left id)⟩
        rcases q with rfl | rfl
        · exact absurd ((ST8.out.fresh _ hb.2.1).resolve_left id) (by omega)
        · exact absurd ((ST8.out.fresh _ hb.2.2).resolve_left id) (by omega)
end Go.Proofs.Ytlmelcfiegamaaa.Fano
