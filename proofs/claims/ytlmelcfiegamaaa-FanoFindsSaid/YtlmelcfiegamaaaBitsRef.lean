/- The document's bits: ones and a nought, a number's bits, bits as bytes. -/
import Derived.Test.YtlmelcfiegamaaaBitsR
import Derived.Deep.OwnRows
import Derived.BigRegion
namespace Go.Proofs.Ytlmelcfiegamaaa.Bits
open Go.RowKit Go.Proofs.Ytlmelcfiegamaaa.Own Go.Proofs.Ytlmelcfiegamaaa.Rely
attribute [local go_sem] max_ints min_ints

/-- A row of bits as numbers. -/
def bs (L : List Bool) : List Int := L.map fun b => if b then 1 else 0
theorem bs_length (L : List Bool) : (bs L).length = L.length := by simp [bs]
theorem bs_app (L M : List Bool) : bs (L ++ M) = bs L ++ bs M := by simp [bs]
theorem bs_getD (L : List Bool) (i : Nat) : (bs L).getD i 0 = if L.getD i false then 1 else 0 := by
  unfold bs
  rw [List.getD_eq_getElem?_getD, List.getD_eq_getElem?_getD, List.getElem?_map]
  cases L[i]? <;> simp

/-- What a call answers that makes a row of bytes of its own. -/
def Made (w : World) (e : Ending) (xs : List Int) (w' : World) : Prop := ∃ A c, e = .returned (.slice A xs.length c) ∧ xs.length ≤ c ∧ ∃ S', Row 5 .u8 (.slice A xs.length c) xs w' S' ∧ Step (fun _ => False) S' w w'
theorem made_of {w w' : World} {v : Value} {xs : List Int} {S' : Nat → Prop} (h : Row 5 .u8 v xs w' S') (st : Step (fun _ => False) S' w w') : Made w (.returned v) xs w' := by
  obtain ⟨A, c, rfl, hc, _⟩ := h.shape
  exact ⟨A, c, rfl, hc, S', h, st⟩

set_option maxHeartbeats 2000000 in
theorem refUnary_c (k : Nat) (hk : k ≤ 1000000) (w : World) : Calls Try.prog 63 #[.int .i64 k] w fun e w' => Made w e (bs (List.replicate k true ++ [false])) w' := by
  go_enter Try.func63, Try.ntmps63
  go_wp2_with fail
  go_loopw [3, 4] (fun v3 v4 wr => ∃ (j : Nat) (S' : Nat → Prop), j ≤ k ∧ v4 = .int .i64 j ∧ Row 5 .u8 v3 (bs (List.replicate j true)) wr S' ∧ Step (fun _ => False) S' w wr) (fun _ v4 _ => k - (intOf v4).toNat)
  case atStart => exact ⟨0, fun _ => False, by omega, rfl, Row.nil _ _ _, Step.refl _ _⟩
  case round =>
    obtain ⟨j, S', hj, rfl, hw, hst⟩ := hrel
    have hlen : (bs (List.replicate j true)).length = j := by rw [bs_length, List.length_replicate]
    have HL := Lib.hid hlen
    have HV := Lib.hid hw.sepEmp
    have ST := Lib.hid hst
    clear hw hst hlen
    by_cases hlt : j < k
    · have HE : RowKit.Hid (bs (List.replicate j true) ++ [1] = bs (List.replicate (j + 1) true)) := Lib.hid (by rw [List.replicate_succ', bs_app]; rfl)
      go_wp2_with (at_builtin; refine append_lit _ 5 rfl _ _ 27 rfl .u8 1 Try.underlying27 info_u8 (by decide) _ (bs (List.replicate j true)) [1] 1 1 rfl rfl rfl rfl Lcl.emp HV.out (by have := HL.out; simp only [List.length_cons, List.length_nil]; omega) ?_; intro A' c' w' S2 h' st'; rw [HE.out] at h'; have H' := Lib.hid (Sep.left_of_emp h'); have ST' := Lib.hid st'; clear h' st')
      go_roundw
      case rel => exact ⟨j + 1, S2, by omega, rfl, H'.out, ST.out.trans ST'.out⟩
      case measure => first | (simp [intOf]; done) | (simp [intOf]; omega)
    · obtain rfl : j = k := by omega
      have HE : RowKit.Hid (bs (List.replicate j true) ++ [0] = bs (List.replicate j true ++ [false])) := Lib.hid (by rw [bs_app]; rfl)
      go_wp2_with (at_builtin; refine append_lit _ 5 rfl _ _ 27 rfl .u8 1 Try.underlying27 info_u8 (by decide) _ (bs (List.replicate j true)) [0] 1 1 rfl rfl rfl rfl Lcl.emp HV.out (by have := HL.out; simp only [List.length_cons, List.length_nil]; omega) ?_; intro A' c' w' S2 h' st'; rw [HE.out] at h'; have H' := Lib.hid (Sep.left_of_emp h'); have ST' := Lib.hid st'; clear h' st')
      go_ret
      exact made_of H'.out (ST.out.trans ST'.out)

/-- The number of bits that a size asks for. -/
def kOf (size : Int) : Nat := (min (max size 0) 64).toNat
theorem kOf_le (size : Int) : kOf size ≤ 64 := by unfold kOf; omega

theorem bits_step (n k r : Nat) (h : r < k) : (List.replicate (k - r) (0 : Int) ++ bs (bitsOf n r)).set (k - r - 1) ((n / 2 ^ r % 2 : Nat) : Int) = List.replicate (k - (r + 1)) 0 ++ bs (bitsOf n (r + 1)) := by
  obtain ⟨d, hd⟩ : ∃ d, k - r = d + 1 := ⟨k - r - 1, by omega⟩
  have e1 : k - (r + 1) = d := by omega
  rw [hd, e1, Nat.add_sub_cancel, List.replicate_succ', List.append_assoc, List.set_append_right _ _ (by simp), List.length_replicate, Nat.sub_self]
  simp only [bitsOf, bs, List.cons_append, List.nil_append, List.set_cons_zero, List.map_cons]
  congr 2
  by_cases hb : n / 2 ^ r % 2 = 1
  · rw [hb]; rfl
  · have : n / 2 ^ r % 2 = 0 := by omega
    rw [this]; rfl

set_option maxHeartbeats 4000000 in
theorem refBits_c (n : Nat) (size : Int) (hn : n < 18446744073709551616) (w : World) : Calls Try.prog 62 #[.int .u64 n, .int .i64 size] w fun e w' => Made w e (bs (bitsOf n (kOf size))) w' := by
  obtain ⟨k, hk⟩ : ∃ k, k = kOf size := ⟨_, rfl⟩
  have hk64 : k ≤ 64 := by rw [hk]; exact kOf_le size
  have hmk := run_make_row' (P := Try.prog) 27 5 (.int .u8 0) 1 Try.underlying27 info_u8 rfl .i64 .i64 k (by omega) (by omega)
  have hkv : (k : Int) = min (max size 0) 64 := by rw [hk]; unfold kOf; omega
  rw [← hk]
  clear hk
  have m1 := sepMade Lcl.emp (w := w) (S := fun _ => False) (fun _ x => x) 5 .u8 k (by omega)
  have M1 := Lib.hid m1
  clear m1
  have HKV := Lib.hid hkv
  clear hkv
  obtain ⟨z, hz⟩ : ∃ z : Int, z = k := ⟨_, rfl⟩
  rw [← hz] at hmk
  have hcase : (64 < size ∧ z = 64) ∨ (size < 0 ∧ z = 0) ∨ ((0 ≤ size ∧ size ≤ 64) ∧ z = size) := by have := HKV.out; omega
  have HN := Lib.hid hn
  have HZ := Lib.hid hz
  clear hz hn HKV
  rcases hcase with ⟨h1, rfl⟩ | ⟨h1, rfl⟩ | ⟨h1, rfl⟩
  all_goals
    go_enter Try.func62, Try.ntmps62
    go_wp2_with fail
    clear hmk
    generalize w.alloc (.cells (madeCells #[.int .u8 0] k) 5) = w1 at M1 ⊢
    generalize w.heap.size = g at M1 ⊢
    go_loopw [0, 6] (fun v0 v6 wr => ∃ (r : Nat) (S' : Nat → Prop), r ≤ k ∧ v6 = .int .i64 ((k : Int) - r - 1) ∧ v0 = .int .u64 ((n / 2 ^ r : Nat) : Int) ∧ Row 5 .u8 (.slice (some ⟨g, 0, none⟩) k k) (List.replicate (k - r) 0 ++ bs (bitsOf n r)) wr S' ∧ Step (fun _ => False) S' w wr) (fun _ v6 _ => (intOf v6 + 1).toNat)
    case atStart => exact ⟨0, _, by omega, by have := HZ.out; first | (congr 1; omega) | (simp; omega), by simp, by simpa [bitsOf, bs] using Sep.left_of_emp M1.out.1, M1.out.2⟩
    case round =>
      clear M1 h1
      obtain ⟨r, S', hr, rfl, rfl, hw, hst⟩ := hrel
      by_cases hlt : r < k
      · have hrl : (List.replicate (k - r) (0 : Int) ++ bs (bitsOf n r)).length = k := by rw [List.length_append, List.length_replicate, bs_length, bitsOf_length]; omega
        obtain ⟨i, hi⟩ : ∃ i : Nat, (k : Int) - r - 1 = i := ⟨k - r - 1, by omega⟩
        have hik : i = k - r - 1 := by omega
        have cg := hw.cell (i := i) (by omega)
        have fg := hw.free i
        have hi1 : (i : Int) < (k : Int) := by omega
        have hs := hw.set i ((n / 2 ^ r % 2 : Nat) : Int)
        rw [hik, bits_step n k r hlt, ← hik] at hs
        have HS := Lib.hid hs
        have ST := Lib.hid hst
        have hge : decide ((0 : Int) ≤ (i : Int)) = true := by simp
        rw [hi]
        obtain ⟨q, hq⟩ : ∃ q, q = n / 2 ^ r := ⟨_, rfl⟩
        have hq2 : n / 2 ^ (r + 1) = q / 2 := by rw [hq, Nat.pow_succ, Nat.div_div_eq_div_mul]
        have HQ2 := Lib.hid hq2
        have hqb : q < 18446744073709551616 := by rw [hq]; exact Nat.lt_of_le_of_lt (Nat.div_le_self _ _) HN.out
        rw [← hq] at HS ⊢
        have hi2 : (i : Int) - 1 = (k : Int) - ((r + 1 : Nat) : Int) - 1 := by omega
        have HI2 := Lib.hid hi2
        have HLT := Lib.hid hlt
        have HIK := Lib.hid hik
        clear hw hst hs hrl hi hik hq hq2 hi2 hlt
        go_wp2_with fail
        have hqq : (q : Int) % 2 = ((q % 2 : Nat) : Int) := by omega
        have hqd : (q : Int) / 2 = ((q / 2 : Nat) : Int) := by omega
        rw [hqq, hqd]
        go_roundw
        case rel => exact ⟨r + 1, S', HLT.out, by rw [HI2.out], by rw [HQ2.out], HS.out.1, ST.out.trans HS.out.2⟩
        case measure => first | (simp [intOf]; done) | (simp [intOf]; omega)
      · obtain rfl : r = k := by omega
        have hneg : (r : Int) - r - 1 = -1 := by omega
        rw [Nat.sub_self, List.replicate_zero, List.nil_append] at hw
        rw [hneg]
        have hlen : (bs (bitsOf n r)).length = r := by rw [bs_length, bitsOf_length]
        have HW := Lib.hid hw
        have ST := Lib.hid hst
        clear hw hst hneg
        go_wp2_with fail
        go_ret
        exact made_of HW.out ST.out

/-- The bytes so far, behind them noughts. -/
def part (L : List Bool) (i : Nat) : List Int := pack (L.take i) ++ List.replicate ((L.length + 7) / 8 - (i + 7) / 8) 0
theorem part_length {L : List Bool} {i : Nat} (h : i ≤ L.length) : (part L i).length = (L.length + 7) / 8 := by
  unfold part
  rw [List.length_append, List.length_replicate, pack_length, List.length_take, Nat.min_eq_left h]
  have : (i + 7) / 8 ≤ (L.length + 7) / 8 := Nat.div_le_div_right (by omega)
  omega
theorem part_zero (L : List Bool) : part L 0 = List.replicate ((L.length + 7) / 8) 0 := by simp [part, pack, packs]
theorem part_all (L : List Bool) : part L L.length = pack L := by unfold part; rw [List.take_length, Nat.sub_self]; simp
theorem grow_part {L : List Bool} {i : Nat} (h : i < L.length) : part L i = grow (pack (L.take i)) i ++ List.replicate ((L.length + 7) / 8 - (i + 1 + 7) / 8) 0 := by
  unfold part grow
  by_cases h8 : i % 8 = 0
  · rw [if_pos h8]
    obtain ⟨d, hd⟩ : ∃ d, (L.length + 7) / 8 - (i + 7) / 8 = d + 1 := ⟨(L.length + 7) / 8 - (i + 7) / 8 - 1, by omega⟩
    have e : (L.length + 7) / 8 - (i + 1 + 7) / 8 = d := by omega
    rw [hd, e, List.replicate_succ, List.append_assoc]; rfl
  · rw [if_neg h8]
    have e : (i + 1 + 7) / 8 = (i + 7) / 8 := by omega
    rw [e]
theorem or_add (z : Int) (h0 : 0 ≤ z) (h1 : z ≤ 255) (j : Nat) (hj : j ≤ 7) (hb : z.toNat.testBit (7 - j) = false) : Go.bits .or .u8 z (128 / 2 ^ j) = (z + 2 ^ (7 - j)) % 256 ∧ z + 2 ^ (7 - j) ≤ 255 := by
  obtain ⟨n, rfl⟩ := Int.eq_ofNat_of_zero_le h0
  obtain ⟨e, he⟩ := or_code n h0 h1 j hj
  rw [Int.toNat_natCast] at hb e he
  have key : n ||| 2 ^ (7 - j) = n + 2 ^ (7 - j) := by
    have hn : n < 256 := by omega
    have : 7 - j ≤ 7 := by omega
    generalize 7 - j = m at *
    have hm : m = 0 ∨ m = 1 ∨ m = 2 ∨ m = 3 ∨ m = 4 ∨ m = 5 ∨ m = 6 ∨ m = 7 := by omega
    have all : ∀ x : Fin 256, ∀ y : Fin 8, x.val.testBit y.val = false → x.val ||| 2 ^ y.val = x.val + 2 ^ y.val := by decide +kernel
    exact all ⟨n, hn⟩ ⟨m, by omega⟩ hb
  have hp : (2 : Int) ^ (7 - j) = ((2 ^ (7 - j) : Nat) : Int) := by rw [Int.natCast_pow]; rfl
  rw [e, hp, key]
  rw [key] at he
  constructor
  · omega
  · omega
theorem part_step {L : List Bool} {i : Nat} (h : i < L.length) (z : Int) (hz : z = (part L i).getD (i / 8) 0) :
    (0 ≤ z ∧ z ≤ 255) ∧ (part L i).set (i / 8) ((z + (if L.getD i false then 1 else 0) * 2 ^ (7 - i % 8)) % 256) = part L (i + 1) ∧ z + (if L.getD i false then 1 else 0) * 2 ^ (7 - i % 8) ≤ 255 := by
  have hl : (L.take i).length = i := by rw [List.length_take]; omega
  have hgl := grow_length (m := i) (B := pack (L.take i)) (by rw [pack_length, hl])
  obtain ⟨hb, hbit⟩ := pack_all (L.take i)
  have hbg := bytes_grow hb i
  have hzg : z = (grow (pack (L.take i)) i).getD (i / 8) 0 := by
    rw [hz, grow_part h, List.getD_eq_getElem?_getD, List.getElem?_append_left hgl, ← List.getD_eq_getElem?_getD]
  have hzr := hbg.getD (i / 8)
  rw [← hzg] at hzr
  have htb : z.toNat.testBit (7 - i % 8) = false := by
    have h1 := bitAt_grow (pack (L.take i)) i i
    rw [hbit] at h1
    rw [hzg]
    show bitAt (grow (pack (L.take i)) i) i = false
    rw [h1, List.getD_eq_getElem?_getD, List.getElem?_eq_none (by omega)]
    rfl
  obtain ⟨o1, o2⟩ := or_add z hzr.1 hzr.2 (i % 8) (by omega) htb
  have htk : L.take (i + 1) = L.take i ++ [L.getD i false] := by
    rw [List.take_add_one, List.getD_eq_getElem?_getD, List.getElem?_eq_getElem h]; rfl
  have hps := pack_snoc (L.take i) (L.getD i false)
  rw [hl] at hps
  have hnew : part L (i + 1) = put1 (pack (L.take i)) i (L.getD i false) ++ List.replicate ((L.length + 7) / 8 - (i + 1 + 7) / 8) 0 := by
    unfold part; rw [htk, hps]
  refine ⟨hzr, ?_, ?_⟩
  · rw [hnew, grow_part h, List.set_append_left _ _ hgl]
    congr 1
    unfold put1
    by_cases hbt : L.getD i false = true
    · rw [if_pos hbt, if_pos hbt, Int.one_mul, ← o1]
      unfold mark
      rw [← hzg]
    · rw [if_neg hbt, if_neg hbt, Int.zero_mul, Int.add_zero, hzg]
      rw [show (grow (pack (L.take i)) i).getD (i / 8) 0 % 256 = (grow (pack (L.take i)) i).getD (i / 8) 0 by rw [← hzg]; omega]
      apply List.ext_getElem?
      intro q
      rw [List.getElem?_set]
      by_cases e : i / 8 = q
      · subst e; rw [if_pos rfl, if_pos hgl, List.getD_eq_getElem?_getD, List.getElem?_eq_getElem hgl]; rfl
      · rw [if_neg e]
  · split
    · rw [Int.one_mul]; exact o2
    · rw [Int.zero_mul, Int.add_zero]; exact hzr.2

set_option maxHeartbeats 4000000 in
theorem refBytes_c (L : List Bool) (hL : L.length ≤ 1000000) (A : Option Addr) (c : Nat) (w : World) (hr : Reads w .u8 A (bs L)) :
    Calls Try.prog 65 #[.slice A L.length c] w fun e w' => Made w e (pack L) w' := by
  obtain ⟨t, ht⟩ : ∃ t, t = (L.length + 7) / 8 := ⟨_, rfl⟩
  have ht1 : t ≤ 200000 := by omega
  have hti : ((L.length : Int) + 7) / 8 = (t : Int) := by omega
  have hmk := run_make_row' (P := Try.prog) 27 5 (.int .u8 0) 1 Try.underlying27 info_u8 rfl .i64 .i64 t (by omega) (by omega)
  have m1 := sepMade Lcl.emp (w := w) (S := fun _ => False) (fun _ x => x) 5 .u8 t (by omega)
  have M1 := Lib.hid m1
  have HR := Lib.hid hr
  have HT := Lib.hid ht
  clear m1 hr ht
  go_enter Try.func65, Try.ntmps65
  go_wp2_with fail
  clear hmk
  generalize w.alloc (.cells (madeCells #[.int .u8 0] t) 5) = w1 at M1 ⊢
  generalize w.heap.size = g at M1 ⊢
  have hz0 := part_zero L
  rw [← HT.out] at hz0
  have H0 := Lib.hid (Sep.left_of_emp M1.out.1)
  rw [← hz0] at H0
  have ST0 := Lib.hid M1.out.2
  clear hz0 M1
  go_loopw [4] (fun v wr => ∃ (i : Nat) (S' : Nat → Prop), i ≤ L.length ∧ v = .int .i64 i ∧ Row 5 .u8 (.slice (some ⟨g, 0, none⟩) t t) (part L i) wr S' ∧ Step (fun _ => False) S' w wr) (fun v _ => L.length - (intOf v).toNat)
  case atStart => exact ⟨0, _, by omega, rfl, H0.out, ST0.out⟩
  case round =>
    clear H0 ST0
    obtain ⟨i, S', hi, rfl, hw, hst⟩ := hrel
    by_cases hlt : i < L.length
    · have hpl := part_length (L := L) (i := i) (by omega)
      rw [← HT.out] at hpl
      have hi8 : i / 8 < t := by have := HT.out; omega
      have cg := hw.cell (i := i / 8) (by omega)
      have fg := hw.free (i / 8)
      obtain ⟨b, o, rfl, hblt, cx⟩ := (HR.out.later (below_of hst)).at (i := i) (by rw [bs_length]; exact hlt)
      rw [bs_getD] at cx
      obtain ⟨z, hz⟩ : ∃ z, z = (part L i).getD (i / 8) 0 := ⟨_, rfl⟩
      obtain ⟨p1, p2, p3⟩ := part_step hlt z hz
      rw [← hz] at cg
      obtain ⟨x, hx⟩ : ∃ x : Int, x = if L.getD i false = true then 1 else 0 := ⟨_, rfl⟩
      have hxr : 0 ≤ x ∧ x ≤ 1 := by rw [hx]; split <;> omega
      rw [← hx] at cx p2 p3
      obtain ⟨j, hj⟩ : ∃ j : Nat, j = 7 - i % 8 := ⟨_, rfl⟩
      have h7 : (7 : Int) - (i : Int) % 8 = (j : Int) := by omega
      rw [← hj] at p2 p3
      have hxp0 : 0 ≤ x * 2 ^ j := Int.mul_nonneg hxr.1 (Int.pow_nonneg (by omega))
      have hmod : (z + x * 2 ^ j) % 256 = z + x * 2 ^ j := by omega
      rw [hmod] at p2
      have hs := hw.set (i / 8) (z + x * 2 ^ j)
      rw [p2] at hs
      clear hmod hxp0
      have hq1 : (i : Int) / 8 < (t : Int) := by omega
      have hq2 : (i : Int) < (L.length : Int) := by omega
      have hjr : j ≤ 7 := by omega
      have HS := Lib.hid hs
      have ST := Lib.hid hst
      have HLT := Lib.hid hlt
      have hxp : 0 ≤ x * 2 ^ j := Int.mul_nonneg hxr.1 (Int.pow_nonneg (by omega))
      have hxm : x * 2 ^ j ≤ 255 := by omega
      clear hw hst hs hz hx hj p2 hpl hi8
      go_wp2_with fail
      go_big_region
      go_wp2_with fail
      go_roundw
      case rel => exact ⟨i + 1, S', HLT.out, rfl, (Lcl.row _ _ _ _).drew HS.out.1, ST.out.trans HS.out.2.drew⟩
      case measure => first | (simp [intOf]; done) | (simp [intOf]; omega)
    · obtain rfl : i = L.length := by omega
      rw [part_all] at hw
      have HW := Lib.hid hw
      have ST := Lib.hid hst
      clear hw hst
      go_wp2_with fail
      go_ret
      exact made_of HW.out ST.out

/-- The number that j bits tell, from a place on. -/
def num (B : List Int) (at_ : Nat) : Nat → Nat
  | 0 => 0
  | j + 1 => 2 * num B at_ j + (if bitAt B (at_ + j) then 1 else 0)
theorem num_lt (B : List Int) (at_ : Nat) : ∀ j, num B at_ j < 2 ^ j
  | 0 => by simp [num]
  | j + 1 => by have := num_lt B at_ j; simp only [num, Nat.pow_succ]; split <;> omega
theorem or_one (n : Nat) (b : Bool) (h : 2 * n + 1 < 18446744073709551616) : Go.bits .or .u64 (IntKind.u64.wrap ((n : Int) * 2)) (if b then 1 else 0) = ((2 * n + (if b then 1 else 0) : Nat) : Int) := by
  rw [Bit.or64, Bit.ofInt_wrap64]
  have e : (n : Int) * 2 = ((2 * n : Nat) : Int) := by omega
  rw [e, BitVec.ofInt_natCast]
  cases b with
  | false =>
    show (((BitVec.ofNat 64 (2 * n)) ||| BitVec.ofInt 64 0).toNat : Int) = _
    rw [show BitVec.ofInt 64 0 = 0#64 from rfl, BitVec.or_zero, BitVec.toNat_ofNat, Nat.mod_eq_of_lt (by omega)]
    simp
  | true =>
    show (((BitVec.ofNat 64 (2 * n)) ||| BitVec.ofInt 64 1).toNat : Int) = _
    rw [show BitVec.ofInt 64 1 = 1#64 from rfl, BitVec.toNat_or, BitVec.toNat_ofNat, Nat.mod_eq_of_lt (by omega)]
    show ((2 * n ||| 1 : Nat) : Int) = _
    have : 2 * n ||| 1 = 2 * n + 1 := by
      have := Nat.two_pow_add_eq_or_of_lt (i := 1) (b := 1) (by omega) n
      simp at this
      rw [← this]
    rw [this]
    simp

set_option maxHeartbeats 2000000 in
theorem take_c (p : Nat) (A : Option Addr) (c : Nat) (B : List Int) (at_ : Nat) (size : Int) (F : Asn) (hF : Lcl F) (hr : ∀ w S, F w S → Reads w .u8 A B) (hb : ∀ x ∈ B, 0 ≤ x ∧ x ≤ 255) (hB : B.length ≤ 1000000000)
    (hn : at_ + kOf size ≤ 8 * B.length) :
    Tri Try.prog 56 #[.pointer (some ⟨p, 0, none⟩), .int .i64 size] (RD p A c B at_ false F) (fun e => Fact (e = .returned (.int .u64 (num B at_ (kOf size)))) (RD p A c B (at_ + kOf size) false F)) := by
  intro w S h
  obtain ⟨k, hk⟩ : ∃ k, k = kOf size := ⟨_, rfl⟩
  have hk64 : k ≤ 64 := by rw [hk]; exact kOf_le size
  have hmm : min (max size 0) 64 = (k : Int) := by rw [hk]; unfold kOf; omega
  rw [← hk] at hn ⊢
  have H := Lib.hid h
  clear h hk
  go_enter Try.func56, Try.ntmps56
  go_wp2_with fail
  clear hmm
  go_loopw [5, 9] (fun v5 v9 wr => ∃ (j : Nat) (S' : Nat → Prop), j ≤ k ∧ v9 = .int .i64 j ∧ v5 = .int .u64 (num B at_ j) ∧ RD p A c B (at_ + j) false F wr S' ∧ Step S S' w wr) (fun _ v9 _ => k - (intOf v9).toNat)
  case atStart => exact ⟨0, S, by omega, rfl, rfl, H.out, Step.refl _ _⟩
  case round =>
    obtain ⟨j, S', hj, rfl, rfl, hw, hst⟩ := hrel
    have HW := Lib.hid hw
    have ST := Lib.hid hst
    clear hw hst
    by_cases hlt : j < k
    · have hp := bit_in p A c B (at_ + j) F hF hr hb hB (by omega)
      have hnl := num_lt B at_ j
      have hpw : 2 ^ j ≤ 2 ^ 63 := Nat.pow_le_pow_right (by omega) (by omega)
      have hor := or_one (num B at_ j) (bitAt B (at_ + j)) (by omega)
      have HNX : RowKit.Hid (num B at_ (j + 1) = 2 * num B at_ j + (if bitAt B (at_ + j) then 1 else 0)) := rfl
      generalize num B at_ j = q at hnl hor HNX ⊢
      have HP := Lib.hid hp
      clear hp hnl hpw
      obtain ⟨x, hx⟩ : ∃ x : Int, x = if bitAt B (at_ + j) = true then 1 else 0 := ⟨_, rfl⟩
      have hx0 : 0 ≤ x ∧ x ≤ 1 := by rw [hx]; split <;> omega
      rw [← hx] at HP hor
      have HX := Lib.hid hx
      clear hx
      go_wp2_with fail
      refine (HP.out _ _ HW.out).mono ?_
      rintro e w2 ⟨S2, ⟨rfl, h2⟩, st2⟩
      have H2 := Lib.hid h2
      have ST2 := Lib.hid (ST.out.trans st2)
      clear h2 st2
      go_wp2_with fail
      go_roundw
      case rel => exact ⟨j + 1, S2, by omega, rfl, by rw [HNX.out, Int.natCast_add, Int.natCast_mul]; rfl, H2.out, ST2.out⟩
      case measure => first | (simp [intOf]; done) | (simp [intOf]; omega)
    · obtain rfl : j = k := by omega
      go_wp2_with fail
      refine (short_is p A c B _ false F _ _ HW.out).mono ?_
      rintro e w3 ⟨rfl, rfl⟩
      go_wp2_with fail
      go_ret
      exact ⟨S', ⟨rfl, HW.out⟩, ST.out⟩
end Go.Proofs.Ytlmelcfiegamaaa.Bits
