/- The writer of bits: what each call leaves. -/
import Derived.Test.YtlmelcfiegamaaaProg
import Derived.Test.YtlmelcfiegamaaaOwnB
import Derived.Test.YtlmelcfiegamaaaBit
import Derived.LoopTactic
import Derived.Outline
import Derived.BigRegion
import Derived.Test.YtlmelcfiegamaaaRely
namespace Go.Proofs.Ytlmelcfiegamaaa.Bits
open Go.RowKit Go.Proofs.Ytlmelcfiegamaaa.Own
attribute [local go_sem] max_ints min_ints

/-- One bit more, behind m bits. -/
def grow (B : List Int) (m : Nat) : List Int := if m % 8 = 0 then B ++ [0] else B
def mark (B : List Int) (m : Nat) : List Int := B.set (m / 8) (Go.bits .or .u8 (B.getD (m / 8) 0) (128 / 2 ^ (m % 8)))
def put1 (B : List Int) (m : Nat) (b : Bool) : List Int := if b then mark (grow B m) m else grow B m
/-- The bytes of a row of bits. -/
def packs (B : List Int) (m : Nat) : List Bool → List Int
  | [] => B
  | b :: L => packs (put1 B m b) (m + 1) L
def pack (L : List Bool) : List Int := packs [] 0 L
theorem packs_app : ∀ (L M : List Bool) (B : List Int) (m : Nat), packs B m (L ++ M) = packs (packs B m L) (m + L.length) M
  | [], M, B, m => by simp [packs]
  | b :: L, M, B, m => by
    show packs (put1 B m b) (m + 1) (L ++ M) = _
    rw [packs_app L M]
    simp only [packs, List.length_cons]
    rw [show m + 1 + L.length = m + (L.length + 1) by omega]
theorem pack_snoc (L : List Bool) (b : Bool) : pack (L ++ [b]) = put1 (pack L) L.length b := by
  unfold pack
  rw [packs_app]
  simp [packs]
theorem packs_length : ∀ (L : List Bool) (B : List Int) (m : Nat), B.length = (m + 7) / 8 → (packs B m L).length = (m + L.length + 7) / 8
  | [], B, m, h => by simpa [packs] using h
  | b :: L, B, m, h => by
    show (packs (put1 B m b) (m + 1) L).length = _
    have h1 : (put1 B m b).length = (m + 1 + 7) / 8 := by
      unfold put1 mark grow
      by_cases h8 : m % 8 = 0
      · simp only [h8, if_true]; split <;> simp [h] <;> omega
      · simp only [h8, if_false]; split <;> simp [h] <;> omega
    rw [packs_length L _ _ h1, List.length_cons]
    omega
theorem pack_length (L : List Bool) : (pack L).length = (L.length + 7) / 8 := by
  have := packs_length L [] 0 (by decide)
  unfold pack
  rw [this]; omega

/-- A writer at block p, its bits so far. -/
def BW (p : Nat) (L : List Bool) : Asn := Some fun v => Sep (Row 5 .u8 v (pack L)) (Blk p #[v, .int .i64 L.length] 83)
theorem loc_bw (p : Nat) (L : List Bool) : Lcl (BW p L) := Lcl.some fun v => (Lcl.row _ _ _ _).sep (Lcl.blk _ _ _)
theorem info_u8 : (Try.prog.info? 5).map (fun i => (i.zero, i.size, i.bytes)) = some (some (.int .u8 0), 1, 1) := by kernel_rfl

/-- The lowest k bits of n, the highest first. -/
def bitsOf (n : Nat) : Nat → List Bool
  | 0 => []
  | k + 1 => (n / 2 ^ k % 2 == 1) :: bitsOf n k
theorem bitsOf_length (n k : Nat) : (bitsOf n k).length = k := by induction k <;> simp_all [bitsOf]

theorem bit_cond (n q : Nat) : (Go.bits .and .u64 ((n : Int) / 2 ^ q) 1 == 1) = (n / 2 ^ q % 2 == 1) := by
  have h : Go.bits .and .u64 ((n : Int) / 2 ^ q) 1 = ((n / 2 ^ q % 2 : Nat) : Int) := by
    rw [Bit.and64]
    have e : (n : Int) / 2 ^ q = ((n / 2 ^ q : Nat) : Int) := by rw [Int.natCast_ediv, Int.natCast_pow]; rfl
    rw [e]
    generalize n / 2 ^ q = x
    rw [BitVec.ofInt_natCast, show BitVec.ofInt 64 1 = 1#64 from rfl, BitVec.toNat_and, BitVec.toNat_ofNat]
    show ((x % 2 ^ 64 &&& 1 : Nat) : Int) = _
    rw [Nat.and_one_is_mod]
    omega
  rw [h]
  by_cases hb : n / 2 ^ q % 2 = 1
  · rw [hb]; rfl
  · have : n / 2 ^ q % 2 = 0 := by omega
    rw [this]; rfl
theorem grow_length {B : List Int} {m : Nat} (h : B.length = (m + 7) / 8) : m / 8 < (grow B m).length := by
  unfold grow; split <;> simp [h] <;> omega

theorem store_many {p m : Nat} {v : Value} {G : List Int} {M : List Bool} {w : World} {S : Nat → Prop} (h : Sep (Row 5 .u8 v G) (Blk p #[v, .int .i64 m] 83) w S) (hG : pack M = G) (hm : M.length = m + 1) :
    BW p M (w.setCell ⟨p, 1, none⟩ (.int .i64 ((m : Int) + 1))) S ∧ Step S S w (w.setCell ⟨p, 1, none⟩ (.int .i64 ((m : Int) + 1))) := by
  obtain ⟨S1, S2, h1, h2, d, q⟩ := h
  have hw : (m : Int) + 1 = (M.length : Int) := by rw [hm]; omega
  rw [hw]
  have hs := Blk.set h2 1 (.int .i64 (M.length : Int))
  have hS : S = fun k => S2 k ∨ S1 k := funext fun k => propext ((q k).trans Or.comm)
  have := Sep.step (A' := Blk p #[v, .int .i64 (M.length : Int)] 83) (Lcl.row _ _ _ _) h1 (fun k x y => d k y x) hs.1 hs.2
  rw [hS]
  subst hG
  exact ⟨⟨v, this.1.comm⟩, this.2⟩

theorem store_slice {p : Nat} {v v' c : Value} {G : List Int} {w : World} {S : Nat → Prop} (h : Sep (Row 5 .u8 v' G) (Blk p #[v, c] 83) w S) :
    Sep (Row 5 .u8 v' G) (Blk p #[v', c] 83) (w.setCell ⟨p, 0, none⟩ v') S ∧ Step S S w (w.setCell ⟨p, 0, none⟩ v') := by
  obtain ⟨S1, S2, h1, h2, d, q⟩ := h
  have hs := Blk.set h2 0 v'
  have hS : S = fun k => S2 k ∨ S1 k := funext fun k => propext ((q k).trans Or.comm)
  have := Sep.step (A' := Blk p #[v', c] 83) (Lcl.row _ _ _ _) h1 (fun k x y => d k y x) hs.1 hs.2
  rw [hS]
  exact ⟨this.1.comm, this.2⟩

set_option maxHeartbeats 4000000 in
theorem put_gen (p : Nat) (L : List Bool) (n k : Nat) (size : Int) (hmk : min (max size 0) 64 = (k : Int)) (hn : n < 18446744073709551616) (hk : k ≤ 64) (hL : L.length ≤ 1000000000) :
    Tri Try.prog 47 #[.pointer (some ⟨p, 0, none⟩), .int .u64 n, .int .i64 size] (BW p L) (fun e => Fact (e = .returned (.tuple #[])) (BW p (L ++ bitsOf n k))) := by
  intro w S h0
  have H0 := Lib.hid h0
  clear h0
  go_enter Try.func47, Try.ntmps47
  go_wp2_with fail
  go_loopw [6] (fun v wr => ∃ (r : Nat) (M : List Bool) (S' : Nat → Prop), r ≤ k ∧ v = .int .i64 ((r : Int) - 1) ∧ M ++ bitsOf n r = L ++ bitsOf n k ∧ BW p M wr S' ∧ Step S S' w wr) (fun v _ => (intOf v + 1).toNat)
  case atStart => 
    exact ⟨k, L, S, Nat.le_refl _, rfl, rfl, H0.out, Step.refl _ _⟩
  case round =>
    obtain ⟨r, M, S', hr, rfl, hM, hw, hst⟩ := hrel
    have HW := Lib.hid hw
    have ST := Lib.hid hst
    have HM := Lib.hid hM
    clear hw hst hM
    by_cases h0 : r = 0
    · subst h0
      go_wp2_with fail
      go_end0
      have hM := HM.out
      simp only [bitsOf, List.append_nil] at hM
      subst hM
      exact ⟨S', ⟨rfl, HW.out⟩, ST.out⟩
    · obtain ⟨q, rfl⟩ : ∃ q, r = q + 1 := ⟨r - 1, by omega⟩
      have hMl : M.length + (q + 1) = L.length + k := by
        have := congrArg List.length HM.out
        simpa [bitsOf_length] using this
      have hbc := bit_cond n q
      have hsn : M ++ [n / 2 ^ q % 2 == 1] ++ bitsOf n q = L ++ bitsOf n k := by rw [← HM.out]; simp [bitsOf]
      have HSN := Lib.hid hsn
      have hps : pack (M ++ [n / 2 ^ q % 2 == 1]) = if (n / 2 ^ q % 2 == 1) = true then mark (grow (pack M) M.length) M.length else grow (pack M) M.length := pack_snoc M _
      have HPS := Lib.hid hps
      clear hps
      clear hsn HM
      generalize (n / 2 ^ q % 2 == 1) = bt at hbc HSN HPS
      obtain ⟨v, hv⟩ := HW.out
      have hpl := pack_length M
      have hgl := grow_length hpl
      have HG : RowKit.Hid (grow (pack M) M.length = if M.length % 8 = 0 then pack M ++ [0] else pack M) := rfl
      generalize grow (pack M) M.length = G at hgl HG HPS
      clear HW
      clear hpl
      by_cases h8 : M.length % 8 = 0
      · have g8 : ((M.length : Int) % 8 == 0) = true := by rw [beq_iff_eq]; omega
        have hG : G = pack M ++ [0] := by have := HG.out; rw [if_pos h8] at this; exact this
        obtain ⟨T, hT, _⟩ := hv.comm.left
        have c0 : wr.cell? ⟨p, 0, none⟩ = some v := hT.cell 0
        have c1 : wr.cell? ⟨p, 1, none⟩ = some (.int .i64 M.length) := hT.cell 1
        have f0 := hT.free 0
        have f1 := hT.free 1
        have HV := Lib.hid hv
        have HPL := Lib.hid (show (pack M).length ≤ 1000000000 by have := pack_length M; omega)
        have HSH := Lib.hid (show (pack M).length + 1 = G.length by rw [hG]; simp)
        have HGG := Lib.hid hG
        clear hv hT hG HG
        cases bt with
        | true =>
          go_wp2_with (at_builtin; refine append_lit _ 5 rfl _ _ 27 rfl .u8 1 Try.underlying27 info_u8 (by decide) _ (pack M) [0] 1 1 rfl rfl rfl rfl (Lcl.blk _ _ _) HV.out (by have := HPL.out; simp; omega) ?_; intro A' c' w' S2 h' st'; rw [HSH.out] at h' ⊢; rw [← HGG.out] at h'; obtain ⟨T', hT', _⟩ := h'.comm.left; obtain ⟨T0, hT0, _⟩ := h'.left; obtain ⟨g, cap, hve, _, _⟩ := hT0.form (by omega); injection hve with hA _ hcap; subst hA hcap; have H' := Lib.hid h'; have ST' := Lib.hid st'; have c0 : w'.cell? ⟨p, 0, none⟩ = some v := hT'.cell 0; have c1 : w'.cell? ⟨p, 1, none⟩ = some (.int .i64 M.length) := hT'.cell 1; have f0 := hT'.free 0; have f1 := hT'.free 1; clear h' st' hT' hT0)
          have hsl := store_slice H'.out
          have HV2 := Lib.hid hsl.1
          have ST3 := Lib.hid ((ST.out.trans ST'.out).trans hsl.2)
          clear hsl H' ST' ST HV c0 c1 f0 f1 h8 g8
          generalize w'.setCell ⟨p, 0, none⟩ (.slice (some ⟨g, 0, none⟩) G.length c') = w3 at HV2 ST3 ⊢
          obtain ⟨T, hT, _⟩ := HV2.out.comm.left
          obtain ⟨T0, hT0, _⟩ := HV2.out.left
          have c0 : w3.cell? ⟨p, 0, none⟩ = some (.slice (some ⟨g, 0, none⟩) G.length c') := hT.cell 0
          have c1 : w3.cell? ⟨p, 1, none⟩ = some (.int .i64 M.length) := hT.cell 1
          have f0 := hT.free 0
          have f1 := hT.free 1
          have cg := hT0.cell hgl
          have fg := hT0.free (M.length / 8)
          clear hT hT0
          have HZ : RowKit.Hid (mark G M.length = G.set (M.length / 8) (Go.bits .or .u8 (G.getD (M.length / 8) 0) (128 / 2 ^ (M.length % 8)))) := rfl
          generalize G.getD (M.length / 8) 0 = z at cg HZ
          go_big_region
          have hs := sepSet (Lcl.blk _ _ _) HV2.out (M.length / 8) (Go.bits .or .u8 z (128 / 2 ^ (M.length % 8)))
          have HS := Lib.hid (show Sep _ _ _ _ from ((Lcl.row _ _ _ _).sep (Lcl.blk _ _ _)).drew hs.1)
          have ST2 := Lib.hid (ST3.out.trans hs.2.drew)
          clear hs c0 c1 f0 f1 cg fg HV2 ST3
          generalize (w3.setCell ⟨g, M.length / 8, none⟩ (.int .u8 (Go.bits .or .u8 z (128 / 2 ^ (M.length % 8))))).drew = w5 at HS ST2 ⊢
          obtain ⟨T, hT, _⟩ := HS.out.comm.left
          have c1 : w5.cell? ⟨p, 1, none⟩ = some (.int .i64 M.length) := hT.cell 1
          have f1 := hT.free 1
          clear hT
          go_wp2_with fail
          have hd := store_many (M := M ++ [true]) HS.out (by rw [HPS.out, if_pos trivial, HZ.out]) (by simp)
          go_roundw
          case rel => exact ⟨q, M ++ [true], S2, by omega, rfl, HSN.out, hd.1, ST2.out.trans hd.2⟩
          case measure => first | (simp [intOf]; done) | (simp [intOf]; omega)
        | false =>
          go_wp2_with (at_builtin; refine append_lit _ 5 rfl _ _ 27 rfl .u8 1 Try.underlying27 info_u8 (by decide) _ (pack M) [0] 1 1 rfl rfl rfl rfl (Lcl.blk _ _ _) HV.out (by have := HPL.out; simp; omega) ?_; intro A' c' w' S2 h' st'; rw [HSH.out] at h' ⊢; rw [← HGG.out] at h'; obtain ⟨T', hT', _⟩ := h'.comm.left; obtain ⟨T0, hT0, _⟩ := h'.left; obtain ⟨g, cap, hve, _, _⟩ := hT0.form (by omega); injection hve with hA _ hcap; subst hA hcap; have H' := Lib.hid h'; have ST' := Lib.hid st'; have c0 : w'.cell? ⟨p, 0, none⟩ = some v := hT'.cell 0; have c1 : w'.cell? ⟨p, 1, none⟩ = some (.int .i64 M.length) := hT'.cell 1; have f0 := hT'.free 0; have f1 := hT'.free 1; clear h' st' hT' hT0)
          have hsl := store_slice H'.out
          have hd := store_many (M := M ++ [false]) hsl.1 (by rw [HPS.out]; try rfl) (by simp)
          go_roundw
          case rel => exact ⟨q, M ++ [false], S2, by omega, rfl, HSN.out, hd.1, ((ST.out.trans ST'.out).trans hsl.2).trans hd.2⟩
          case measure => first | (simp [intOf]; done) | (simp [intOf]; omega)
      · have g8 : ((M.length : Int) % 8 == 0) = false := by rw [beq_eq_false_iff_ne]; omega
        have hG : G = pack M := by have := HG.out; rw [if_neg h8] at this; exact this
        rw [← hG] at hv
        obtain ⟨T, hT, _⟩ := hv.comm.left
        obtain ⟨T0, hT0, _⟩ := hv.left
        obtain ⟨g, cap, rfl, _, _⟩ := hT0.form (by omega)
        have c0 : wr.cell? ⟨p, 0, none⟩ = some (.slice (some ⟨g, 0, none⟩) G.length cap) := hT.cell 0
        have c1 : wr.cell? ⟨p, 1, none⟩ = some (.int .i64 M.length) := hT.cell 1
        have f0 := hT.free 0
        have f1 := hT.free 1
        have cg := hT0.cell hgl
        have fg := hT0.free (M.length / 8)
        have HV := Lib.hid hv
        clear hv hT hT0 hG HG
        have HZ : RowKit.Hid (mark G M.length = G.set (M.length / 8) (Go.bits .or .u8 (G.getD (M.length / 8) 0) (128 / 2 ^ (M.length % 8)))) := rfl
        generalize G.getD (M.length / 8) 0 = z at cg HZ
        cases bt with
        | true =>
          go_wp2_with fail
          go_big_region
          have hs := sepSet (Lcl.blk _ _ _) HV.out (M.length / 8) (Go.bits .or .u8 z (128 / 2 ^ (M.length % 8)))
          have HS := Lib.hid (show Sep _ _ _ _ from ((Lcl.row _ _ _ _).sep (Lcl.blk _ _ _)).drew hs.1)
          have ST2 := Lib.hid (ST.out.trans hs.2.drew)
          clear hs c0 c1 f0 f1 cg fg HV ST
          generalize (wr.setCell ⟨g, M.length / 8, none⟩ (.int .u8 (Go.bits .or .u8 z (128 / 2 ^ (M.length % 8))))).drew = w5 at HS ST2 ⊢
          obtain ⟨T, hT, _⟩ := HS.out.comm.left
          have c1 : w5.cell? ⟨p, 1, none⟩ = some (.int .i64 M.length) := hT.cell 1
          have f1 := hT.free 1
          clear hT
          go_wp2_with fail
          have hd := store_many (M := M ++ [true]) HS.out (by rw [HPS.out, if_pos trivial, HZ.out]) (by simp)
          go_roundw
          case rel => exact ⟨q, M ++ [true], S', by omega, rfl, HSN.out, hd.1, ST2.out.trans hd.2⟩
          case measure => first | (simp [intOf]; done) | (simp [intOf]; omega)
        | false =>
          go_wp2_with fail
          have hd := store_many (M := M ++ [false]) HV.out (by rw [HPS.out]; try rfl) (by simp)
          go_roundw
          case rel => exact ⟨q, M ++ [false], S', by omega, rfl, HSN.out, hd.1, ST.out.trans hd.2⟩
          case measure => first | (simp [intOf]; done) | (simp [intOf]; omega)

theorem put_tri (p : Nat) (L : List Bool) (n k : Nat) (hn : n < 18446744073709551616) (hk : k ≤ 64) (hL : L.length ≤ 1000000000) :
    Tri Try.prog 47 #[.pointer (some ⟨p, 0, none⟩), .int .u64 n, .int .i64 k] (BW p L) (fun e => Fact (e = .returned (.tuple #[])) (BW p (L ++ bitsOf n k))) :=
  put_gen p L n k k (by omega) hn hk hL
end Go.Proofs.Ytlmelcfiegamaaa.Bits
/- The writer of bits: its length, its bytes, ones and a nought; a new one; chapter 4's example. -/
namespace Go.Proofs.Ytlmelcfiegamaaa.Bits
open Go.RowKit Go.Proofs.Ytlmelcfiegamaaa.Own Go.Proofs.Ytlmelcfiegamaaa.Rely

theorem bw_c {p : Nat} {L : List Bool} {w : World} {S : Nat → Prop} (h : BW p L w S) : ∃ A c, w.cell? ⟨p, 0, none⟩ = some (.slice A (pack L).length c) ∧ w.cell? ⟨p, 1, none⟩ = some (.int .i64 L.length) ∧ Reads w .u8 A (pack L) := by
  obtain ⟨v, h⟩ := h
  obtain ⟨T, hT, _⟩ := h.comm.left
  obtain ⟨T2, hT2, _⟩ := h.left
  obtain ⟨A, c, rfl, _, hr, _⟩ := hT2.reads
  exact ⟨A, c, hT.cell 0, hT.cell 1, hr⟩

theorem below_of {S1 : Nat → Prop} {w w' : World} (h : Step (fun _ => False) S1 w w') : Below w.heap.size w w' := h.keep.below (Nat.le_refl _) (fun _ _ x => x)

set_option maxHeartbeats 1000000 in
theorem bytes_c (p : Nat) (L : List Bool) (hL : L.length ≤ 1000000000) (w : World) (S : Nat → Prop) (h : BW p L w S) : Calls Try.prog 49 #[.pointer (some ⟨p, 0, none⟩)] w
    fun e w' => ∃ A c, e = .returned (.slice A (pack L).length c) ∧ (pack L).length ≤ c ∧ Reads w' .u8 A (pack L) ∧ Below w.heap.size w w' := by
  obtain ⟨A, c, c0, _, hr⟩ := bw_c h
  have hl : (pack L).length ≤ 1000000000 := by rw [pack_length]; omega
  have hE := sepEmpty Lcl.emp (w := w) (S := fun _ => False) (fun _ x => x) 5 .u8
  have c4 : (w.alloc (.cells #[] 5)).cell? ⟨p, 0, none⟩ = some (.slice A (pack L).length c) := (((Below.refl w.heap.size w).alloc (Nat.le_refl _) (.cells #[] 5)).cell (p := ⟨p, 0, none⟩) (World.block_lt_of_cell? w _ c0)).trans c0
  have HR := Lib.hid (hr.later (w' := w.alloc (.cells #[] 5)) ((Below.refl _ _).alloc (Nat.le_refl _) _))
  have H := Lib.hid hE
  clear h hE hr
  generalize pack L = P at *
  go_enter Try.func49, Try.ntmps49
  go_wp2_with (at_builtin; refine append_row _ rfl _ _ 27 rfl 5 .u8 1 Try.underlying27 info_u8 (by decide) _ [] P A P.length c rfl rfl rfl Lcl.emp H.out.1 HR.out (by simp; omega) ?_; intro A' c' w' S' h' st'; have H' := Lib.hid h'; have ST' := Lib.hid st'; clear h' st')
  go_ret
  have h5 := H'.out
  simp only [List.length_nil, Nat.zero_add, List.nil_append] at h5
  have hb := below_of ((H.out.2).trans ST'.out)
  have h6 := Sep.left_of_emp h5
  obtain ⟨A2, c2, e2, h7, h8, _⟩ := h6.reads
  injection e2 with e3 _ e4
  subst e3 e4
  exact ⟨_, _, rfl, h7, h8, hb⟩

theorem new_bw {A : Asn} (hA : Lcl A) {w : World} {S : Nat → Prop} (h : A w S) :
    Sep (BW w.heap.size []) A (w.alloc (.cells #[.slice none 0 0, .int .i64 0] 83)) (fun b => b = w.heap.size ∨ S b) ∧ Step S (fun b => b = w.heap.size ∨ S b) w (w.alloc (.cells #[.slice none 0 0, .int .i64 0] 83)) := by
  have hs := Sep.alloc hA h #[.slice none 0 0, .int .i64 0] 83
  refine ⟨hs.1.imp_left fun T hT => ⟨.slice none 0 0, ?_⟩, hs.2⟩
  exact ⟨fun _ => False, T, Row.nil _ _ _, hT, fun _ x _ => x, fun k => by simp⟩

set_option maxHeartbeats 1000000 in
theorem unary_tri (p : Nat) (L : List Bool) (x : Int) (x0 : -1000000 ≤ x) (x1 : x ≤ 1000000) (hL : L.length ≤ 100000000) :
    Tri Try.prog 48 #[.pointer (some ⟨p, 0, none⟩), .int .i64 x] (BW p L) (fun e => Fact (e = .returned (.tuple #[])) (BW p (L ++ List.replicate x.toNat true ++ [false]))) := by
  intro w S h0
  have H0 := Lib.hid h0
  clear h0
  go_enter Try.func48, Try.ntmps48
  go_wp2_with fail
  go_loopw [1] (fun v wr => ∃ (j : Nat) (S' : Nat → Prop), j ≤ x.toNat ∧ v = .int .i64 (x - j) ∧ BW p (L ++ List.replicate j true) wr S' ∧ Step S S' w wr) (fun v _ => (intOf v).toNat)
  case atStart => exact ⟨0, S, by omega, by simp, by simpa using H0.out, Step.refl _ _⟩
  case round =>
    obtain ⟨j, S', hj, rfl, hw, hst⟩ := hrel
    have HW := Lib.hid hw
    have ST := Lib.hid hst
    clear hw hst
    by_cases hlt : j < x.toNat
    · have hgt : decide ((0 : Int) < x - j) = true := by simp; omega
      go_wp2_with fail
      have hp := put_tri p (L ++ List.replicate j true) 1 1 (by omega) (by omega) (by simp; omega)
      refine (hp _ _ HW.out).mono ?_
      rintro e w2 ⟨S2, ⟨rfl, h2⟩, st2⟩
      have H2 := Lib.hid h2
      have ST2 := Lib.hid (ST.out.trans st2)
      clear h2 st2 hp
      go_wp2_with fail
      go_roundw
      case rel =>
        refine ⟨j + 1, S2, by omega, ?_, ?_, ST2.out⟩
        · congr 1; omega
        · have h2 := H2.out
          have e : L ++ List.replicate j true ++ bitsOf 1 1 = L ++ List.replicate (j + 1) true := by
            rw [List.append_assoc, List.replicate_succ']; rfl
          rw [e] at h2
          exact h2
      case measure => first | (simp [intOf]; done) | (simp [intOf]; omega)
    · obtain rfl : j = x.toNat := by omega
      have hgt : decide ((0 : Int) < x - (x.toNat : Int)) = false := by simp; omega
      go_wp2_with fail
      have hp := put_tri p (L ++ List.replicate x.toNat true) 0 1 (by omega) (by omega) (by simp; omega)
      refine (hp _ _ HW.out).mono ?_
      rintro e w2 ⟨S2, ⟨rfl, h2⟩, st2⟩
      have H2 := Lib.hid h2
      have ST2 := Lib.hid (ST.out.trans st2)
      clear h2 st2 hp
      go_wp2_with fail
      go_end0
      exact ⟨S2, ⟨rfl, H2.out⟩, ST2.out⟩

theorem awake_bits : pack ([] ++ List.replicate (3 : Int).toNat true ++ [false] ++ bitsOf 5 3) = [234] := by decide +kernel

end Go.Proofs.Ytlmelcfiegamaaa.Bits
