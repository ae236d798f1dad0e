/- Rising numbers by their gaps: what Put makes. -/
import Derived.Test.YtlmelcfiegamaaaRice
namespace Go.Proofs.Ytlmelcfiegamaaa.Rice
open Go.RowKit Go.Proofs.Ytlmelcfiegamaaa.Own Go.Proofs.Ytlmelcfiegamaaa.Rely Go.Proofs.Ytlmelcfiegamaaa.Bits Go.Proofs.Ytlmelcfiegamaaa.Wire
attribute [local go_sem] max_ints min_ints

def bitsG (k g : Nat) : List Bool := List.replicate (g / 2 ^ k) true ++ [false] ++ bitsOf g k
def bitsL (k : Nat) : List Nat → List Bool
  | [] => []
  | g :: gs => bitsG k g ++ bitsL k gs
theorem bitsL_app (k : Nat) : ∀ a b : List Nat, bitsL k (a ++ b) = bitsL k a ++ bitsL k b
  | [], b => rfl
  | x :: a, b => by simp only [List.cons_append, bitsL, bitsL_app k a b, List.append_assoc]
theorem bitsG_len (k g : Nat) : (bitsG k g).length = g / 2 ^ k + 1 + k := by simp [bitsG, bitsOf_length]; omega
theorem bitsL_len (k : Nat) : ∀ gs, (bitsL k gs).length = bitsN k gs
  | [] => rfl
  | g :: gs => by
    simp only [bitsL, List.length_append, bitsG_len, bitsL_len k gs]
    simp [bitsN]
/-- The document's bytes. -/
def riceB (gs : List Nat) : List Int := enc gs.length ++ [(param gs : Int)] ++ enc (pack (bitsL (param gs) gs)).length ++ pack (bitsL (param gs) gs)

/-- Param tells one by which no row of ones is too long. -/
theorem parTo_ok (gs : List Nat) : ∀ k, 0 ≤ (parTo gs k).2 → qOk (parTo gs k).1 gs = true ∧ (parTo gs k).2 = bitsN (parTo gs k).1 gs ∧ (parTo gs k).1 < k
  | 0, h => by simp [parTo] at h
  | k + 1, h => by
    unfold parTo at h ⊢
    split at h
    · rename_i hc
      rw [if_pos hc]; exact ⟨hc.1, rfl, by simp⟩
    · rename_i hc
      rw [if_neg hc]
      have := parTo_ok gs k h
      exact ⟨this.1, this.2.1, by omega⟩
theorem parTo_min (gs : List Nat) : ∀ k j, j < k → qOk j gs = true → 0 ≤ (parTo gs k).2 ∧ (parTo gs k).2 ≤ bitsN j gs
  | k + 1, j, hj, hq => by
    unfold parTo
    by_cases hjk : j = k
    · subst hjk
      split
      · simp
      · rename_i hc
        have : ¬ ((parTo gs j).2 < 0 ∨ (bitsN j gs : Int) < (parTo gs j).2) := fun h => hc ⟨hq, h⟩
        omega
    · have ih := parTo_min gs k j (by omega) hq
      split
      · rename_i hc; simp; omega
      · exact ih
theorem q63 (gs : List Nat) (h : ∀ g ∈ gs, g < 18446744073709551616) : qOk 63 gs = true := by
  unfold qOk
  rw [List.all_eq_true]
  intro g hg
  have := h g hg
  simp only [decide_eq_true_eq]
  omega
theorem param_ok (gs : List Nat) (h : ∀ g ∈ gs, g < 18446744073709551616) : qOk (param gs) gs = true ∧ param gs ≤ 63 ∧ ∀ j, j < 64 → qOk j gs = true → bitsN (param gs) gs ≤ bitsN j gs := by
  have h63 := parTo_min gs 64 63 (by omega) (q63 gs h)
  obtain ⟨h1, h2, h3⟩ := parTo_ok gs 64 h63.1
  refine ⟨h1, by unfold param; omega, fun j hj hq => ?_⟩
  have := (parTo_min gs 64 j hj hq).2
  unfold param
  omega
theorem gaps_lt {l : List Int} (hu : U64s l) (hri : Rises l) : ∀ g ∈ gaps l, g < 18446744073709551616 := by
  intro g hg
  obtain ⟨i, hi, rfl⟩ := List.mem_map.1 hg
  exact gapN_lt hu hri (List.mem_range.1 hi)
theorem bitsL_bound {l : List Int} (hl : l.length ≤ 4096) {k : Nat} (hk : k ≤ 63) (hq : qOk k (gaps l) = true) (i : Nat) : (bitsL k ((gaps l).take i)).length ≤ 20000000 := by
  rw [bitsL_len]
  have hq' : qOk k ((gaps l).take i) = true := by
    unfold qOk at *
    rw [List.all_eq_true] at *
    exact fun g hg => hq g (List.mem_of_mem_take hg)
  have h1 := bitsN_le k _ hq'
  have h2 : ((gaps l).take i).length ≤ 4096 := by rw [List.length_take, gaps_length]; omega
  have h3 : (4097 + k) * ((gaps l).take i).length ≤ 4160 * 4096 := Nat.mul_le_mul (by omega) h2
  omega

theorem stepF_of_ext {S : Nat → Prop} {w w' w'' : World} (h : Step (fun _ => False) S w w') (k : Ext w' w'') : Step (fun _ => False) S w w'' := h.trans ⟨Keep.of_below k, fun _ q => .inl q⟩

theorem checkR_rises {l : List Int} (h : checkR l = 0) : Rises l := by
  unfold checkR at h
  split at h
  · omega
  · split at h
    · rename_i hall
      rw [List.all_eq_true] at hall
      intro i hi
      simpa using hall i (by rw [List.mem_range]; omega)
    · omega
theorem u64s_all {l : List Int} (h : (l.all fun x => decide (0 ≤ x ∧ x ≤ 18446744073709551615)) = true) : U64s l := by
  intro x hx
  rw [List.all_eq_true] at h
  simpa using h x hx
theorem own_raise {w : World} {base : Nat} {e : TypeId} {n : Nat} {v : Value} {xs : List Value} (h : w.ownsRow 0 e 1 v n xs) (hb : ∀ b, v.ownBlock = some b → base ≤ b) : w.ownsRow base e 1 v n xs := by
  refine ⟨h.1, ?_⟩
  rcases h.2 with hn | ⟨g, cap, cur, rfl, _, rest⟩
  · exact .inl hn
  · exact .inr ⟨g, cap, cur, rfl, hb g (by simp [Value.ownBlock]), rest⟩
theorem own_lower {w : World} {base base' : Nat} {e : TypeId} {n : Nat} {v : Value} {xs : List Value} (h : w.ownsRow base e 1 v n xs) (hb : base' ≤ base) : w.ownsRow base' e 1 v n xs := by
  refine ⟨h.1, ?_⟩
  rcases h.2 with hn | ⟨g, cap, cur, rfl, hg, rest⟩
  · exact .inl hn
  · exact .inr ⟨g, cap, cur, rfl, Nat.le_trans hb hg, rest⟩
set_option maxHeartbeats 1000000 in
theorem wbytes_o (p : Nat) (L : List Int) (hL : L.length ≤ 1000000000) (w : World) (S : Nat → Prop) (h : Wr p L w S) : Calls Try.prog 30 #[.pointer (some ⟨p, 0, none⟩)] w
    fun e w' => ∃ A c, e = .returned (.slice A L.length c) ∧ Reads w' .u8 A L ∧ Ext w w' ∧ (∀ a, A = some a → w.heap.size ≤ a.block) ∧ w'.ownsRow w.heap.size 5 1 (.slice A L.length c) L.length (L.map (Value.int .u8)) := by
  obtain ⟨A, c, c0, hr, _⟩ := wr_c0 h
  have hE := sepEmpty Lcl.emp (w := w) (S := fun _ => False) (fun _ x => x) 5 .u8
  have c4 : (w.alloc (.cells #[] 5)).cell? ⟨p, 0, none⟩ = some (.slice A L.length c) := (((Below.refl w.heap.size w).alloc (Nat.le_refl _) (.cells #[] 5)).cell (p := ⟨p, 0, none⟩) (World.block_lt_of_cell? w _ c0)).trans c0
  have HR := Lib.hid (hr.later (w' := w.alloc (.cells #[] 5)) ((Below.refl _ _).alloc (Nat.le_refl _) _))
  have H := Lib.hid hE
  clear h hE hr
  go_enter Try.func30, Try.ntmps30
  go_wp2_with (at_builtin; refine append_row _ rfl _ _ 27 rfl 5 .u8 1 Try.underlying27 Wire.info_u8 (by decide) _ [] L A L.length c rfl rfl rfl Lcl.emp H.out.1 HR.out (by simp; omega) ?_; intro A' c' w' S' h' st'; have H' := Lib.hid h'; have ST' := Lib.hid st'; clear h' st')
  go_ret
  have h5 := H'.out
  simp only [List.length_nil, Nat.zero_add, List.nil_append] at h5
  have hst := (H.out.2).trans ST'.out
  have hb := belowF hst
  have h6 := Sep.left_of_emp h5
  obtain ⟨A2, c2, e2, h7, h8, h9⟩ := h6.reads
  injection e2 with e3 e5 e4
  subst e3 e4
  exact ⟨_, _, rfl, h8, hb, fun a ha => (hst.fresh _ (h9 a ha)).elim (fun x => x.elim) id, own_raise h6.1 (fun b hq => (hst.fresh _ ((h6.2 b).2 hq)).elim (fun x => x.elim) id)⟩

set_option maxHeartbeats 4000000 in
theorem put_rises (A : Option Addr) (c : Nat) (l : List Int) (w : World) (hr : Reads w .u64 A l) (hl : l.length ≤ 4096) (hu : U64s l) (hri : Rises l) :
    Calls Try.prog 22 #[.slice A l.length c] w fun e w' => ∃ A' c', e = .returned (.tuple #[.slice A' (riceB (gaps l)).length c', .int .i64 0]) ∧ Reads w' .u8 A' (riceB (gaps l)) ∧ Ext w w' ∧ (∀ a, A' = some a → w.heap.size ≤ a.block) ∧ w'.ownsRow w.heap.size 5 1 (.slice A' (riceB (gaps l)).length c') (riceB (gaps l)).length ((riceB (gaps l)).map (Value.int .u8)) := by
  have HR := Lib.hid hr
  have HU := Lib.hid hu
  have HRI := Lib.hid hri
  have HPK := Lib.hid (param_ok (gaps l) (gaps_lt hu hri))
  have HC := Lib.hid (checkR_ok hl hri)
  clear hr hu hri
  go_enter Try.func22, Try.ntmps22
  go_wp2_with fail
  refine (check_c A c l w HR.out (by omega)).mono ?_
  rintro e w1 ⟨rfl, hx1⟩
  rw [HC.out]
  have HX1 := Lib.hid hx1
  clear hx1
  go_wp2_with fail
  refine (param_c A c l w1 (HX1.out.reads HR.out) hl HU.out HRI.out).mono ?_
  rintro e w2 ⟨rfl, hx2⟩
  have HX2 := Lib.hid (Ext.trans _ _ _ HX1.out hx2)
  have hk := HPK.out.2.1
  have HQ := Lib.hid HPK.out.1
  have HRB := Lib.hid (show riceB (gaps l) = enc (gaps l).length ++ [(param (gaps l) : Int)] ++ enc (pack (bitsL (param (gaps l)) (gaps l))).length ++ pack (bitsL (param (gaps l)) (gaps l)) from rfl)
  generalize param (gaps l) = k at hk HQ HRB ⊢
  clear hx2 HPK
  have n1 := new_bw Lcl.emp (w := w2) (S := fun _ => False) (fun _ x => x)
  have H2 := Lib.hid (Sep.left_of_emp n1.1)
  have ST2 := Lib.hid ((show Step (fun _ => False) (fun _ => False) w w2 from ⟨Keep.of_below HX2.out, fun _ q => .inl q⟩).trans n1.2)
  clear n1
  go_wp2_with fail
  generalize w2.alloc (.cells #[.slice none 0 0, .int .i64 0] 83) = w3 at H2 ST2 ⊢
  generalize w2.heap.size = p at H2 ST2 ⊢
  go_loopw [21] (fun v wr => ∃ (i : Nat) (S' : Nat → Prop), i ≤ l.length ∧ v = .int .i64 i ∧ BW p (bitsL k ((gaps l).take i)) wr S' ∧ Step (fun _ => False) S' w wr) (fun v _ => l.length - (intOf v).toNat)
  case atStart => exact ⟨0, _, Nat.zero_le _, rfl, H2.out, ST2.out⟩
  case round =>
    clear H2 ST2
    obtain ⟨i, S', hi, rfl, hw, hst⟩ := hrel
    have HW := Lib.hid hw
    have ST := Lib.hid hst
    have hb := bitsL_bound hl hk HQ.out i
    clear hw hst
    by_cases hlt : i < l.length
    · have HT := Lib.hid (take_gaps l hlt)
      have HE := Lib.hid (below_of ST.out)
      have hg0 := gapN_lt HU.out HRI.out hlt
      have hqg : gapN l i / 2 ^ k ≤ 4096 := by
        have := HQ.out
        unfold qOk at this
        rw [List.all_eq_true] at this
        have := this (gapN l i) (by rw [← gaps_at l hlt]; exact List.getElem_mem _)
        simpa using this
      have HG0 := Lib.hid hg0
      clear hg0
      generalize hL : bitsL k ((gaps l).take i) = L at HW hb
      have HLL := Lib.hid hL
      clear hL
      have hlti : (i : Int) < (l.length : Int) := by omega
      go_wp2_with fail
      refine (gap_c A c l wr (HR.out.later HE.out) (by omega) HU.out HRI.out i hlt).mono ?_
      rintro e w5 ⟨rfl, hx5⟩
      have HW5 := Lib.hid (Ext.keep (loc_bw p L) hx5 HW.out)
      have ST5 := Lib.hid (stepF_of_ext ST.out hx5)
      clear hx5
      obtain ⟨g, hg⟩ : ∃ g, gapN l i = g := ⟨_, rfl⟩
      rw [hg] at hqg HG0 HT ⊢
      obtain ⟨Q, hQ⟩ : ∃ Q, g / 2 ^ k = Q := ⟨_, rfl⟩
      have hgQ : (g : Int) / 2 ^ k = (Q : Int) := by rw [← hQ, Int.natCast_ediv, Int.natCast_pow]; rfl
      rw [hQ] at hqg
      have HQQ := Lib.hid hQ
      clear hg hQ
      go_wp2_with fail
      refine ((unary_tri p L Q (by omega) (by omega) (by omega)) _ _ HW5.out).mono ?_
      rintro e w6 ⟨S6, hf6, st6⟩
      obtain ⟨rfl, h6⟩ := hf6
      have H6 := Lib.hid h6
      have ST6 := Lib.hid (ST5.out.trans st6)
      clear h6 st6
      go_wp2_with fail
      refine ((put_gen p _ g k k (by omega) HG0.out (by omega) (by simp; omega)) _ _ H6.out).mono ?_
      rintro e w7 ⟨S7, hf7, st7⟩
      obtain ⟨rfl, h7⟩ := hf7
      have H7 := Lib.hid h7
      have ST7 := Lib.hid (ST6.out.trans st7)
      have H8 := Lib.hid (show bitsL k ((gaps l).take (i + 1)) = L ++ List.replicate (Q : Int).toNat true ++ [false] ++ bitsOf g k by
        rw [HT.out, bitsL_app, HLL.out]; simp [bitsL, bitsG, HQQ.out])
      clear h7 st7
      go_wp2_with fail
      go_roundw
      case rel => exact ⟨i + 1, S7, by omega, by go_num, by rw [H8.out]; exact H7.out, ST7.out⟩
      case measure => simp [intOf]; omega
    · obtain rfl : i = l.length := by omega
      rw [show (gaps l).take l.length = gaps l from List.take_of_length_le (by rw [gaps_length]; omega)] at HW hb
      obtain ⟨L, hL⟩ : ∃ L, L = bitsL k (gaps l) := ⟨_, rfl⟩
      rw [← hL] at HW hb HRB
      have hpl := pack_length L
      clear hL
      have n2 := new_writer (loc_bw p L) HW.out
      have H3 := Lib.hid n2.1
      have ST3 := Lib.hid (ST.out.trans n2.2)
      clear n2
      go_wp2_with fail
      rename_i Kd hKd K0 hK0 K1 hK1; clear hKd
      generalize wr.alloc (.cells #[.slice none 0 0] 35) = w4 at H3 ST3 ⊢
      generalize wr.heap.size = q at H3 ST3 ⊢
      have hu0 : U64 l.length := by show l.length < 18446744073709551616; omega
      refine (((uint_tri q [] l.length (by simp) hu0).frame (loc_bw p L)) _ _ H3.out).mono ?_
      rintro e w5 ⟨S5, hf5, st5⟩
      obtain ⟨rfl, h5⟩ := Sep.fact hf5
      rw [List.nil_append] at h5
      have h10 := enc_ten hu0
      have HU0 := Lib.hid hu0
      have H5 := Lib.hid h5
      have ST5 := Lib.hid (ST3.out.trans st5)
      clear h5 st5 hf5 hu0 H3 ST3
      go_wp2_with fail
      refine (((byte_tri q (enc l.length) k (by omega)).frame (loc_bw p L)) _ _ H5.out).mono ?_
      rintro e w6 ⟨S6, hf6, st6⟩
      obtain ⟨rfl, h6⟩ := Sep.fact hf6
      have H6 := Lib.hid h6
      have ST6 := Lib.hid (ST5.out.trans st6)
      clear h6 st6 hf6 H5 ST5
      go_wp2_with fail
      obtain ⟨T6, hT6, _⟩ := H6.out.comm.left
      refine (bytes_c p L (by omega) w6 T6 hT6).mono ?_
      rintro e w7 ⟨A7, c7, rfl, _, _, hx7⟩
      have H7 := Lib.hid (Ext.keep ((loc_wr _ _).sep (loc_bw _ _)) hx7 H6.out)
      have ST7 := Lib.hid (stepF_of_ext ST6.out hx7)
      clear hT6 hx7 H6 ST6
      have hpk : (pack L).length ≤ 3000000 := by omega
      have hu7 : U64 (pack L).length := by show (pack L).length < 18446744073709551616; omega
      clear hpl
      generalize hPK : pack L = PK at hpk hu7 HRB ⊢
      have HPK := Lib.hid hPK
      clear hPK
      go_wp2_with fail
      refine (((uint_tri q (enc l.length ++ [(k : Int)]) PK.length (by simp; omega) hu7).frame (loc_bw p L)) _ _ H7.out).mono ?_
      rintro e w8 ⟨S8, hf8, st8⟩
      obtain ⟨rfl, h8⟩ := Sep.fact hf8
      have h10' := enc_ten hu7
      have HU7 := Lib.hid hu7
      have H8 := Lib.hid h8
      have ST8 := Lib.hid (ST7.out.trans st8)
      clear h8 st8 hf8 hu7 H7 ST7
      go_wp2_with fail
      obtain ⟨T8, hT8, _⟩ := H8.out.comm.left
      refine (bytes_c p L (by omega) w8 T8 hT8).mono ?_
      rintro e w9 ⟨A9, c9, rfl, _, hr9, hx9⟩
      rw [HPK.out] at hr9 ⊢
      have HR9 := Lib.hid hr9
      have H9 := Lib.hid (Ext.keep ((loc_wr _ _).sep (loc_bw _ _)) hx9 H8.out)
      have ST9 := Lib.hid (stepF_of_ext ST8.out hx9)
      clear hT8 hx9 hr9 H8 ST8
      go_wp2_with fail
      obtain ⟨T9, h9, hs9⟩ := H9.out.left
      refine (put_c q _ A9 c9 PK w9 T9 h9 HR9.out (by simp; omega)).mono ?_
      rintro e w10 ⟨S10, hf10, st10⟩
      obtain ⟨rfl, h11⟩ := hf10
      have ST10 := Lib.hid ((ST9.out.less hs9).trans st10)
      have H10 := Lib.hid h11
      have HRB2 := Lib.hid (show enc l.length ++ [(k : Int)] ++ enc PK.length ++ PK = riceB (gaps l) by rw [HRB.out, gaps_length])
      clear h11 st10 h9 hs9 H9 ST9
      rw [HRB2.out] at H10
      have hlen : (riceB (gaps l)).length ≤ 4000000 := by rw [← HRB2.out]; simp; omega
      obtain ⟨RB, hRB⟩ : ∃ RB, riceB (gaps l) = RB := ⟨_, rfl⟩
      rw [hRB] at H10 hlen
      have HRBE := Lib.hid hRB
      clear hRB
      go_wp2_with fail
      have HEx := Lib.hid (below_of ST10.out)
      refine (wbytes_o q RB (by omega) w10 S10 H10.out).mono ?_
      rintro e w11 ⟨A11, c11, rfl, hr11, hx11, hn11, ho11⟩
      have HO11 := Lib.hid (own_lower ho11 HEx.out.size)
      have HR11 := Lib.hid hr11
      have HX11 := Lib.hid (Ext.trans _ _ _ HEx.out hx11)
      have HN11 := Lib.hid (show ∀ a, A11 = some a → w.heap.size ≤ a.block from fun a ha => Nat.le_trans HEx.out.size (hn11 a ha))
      clear hr11 hx11 hn11 ho11
      go_wp2_with fail
      go_ret2
      exact ⟨A11, c11, by rw [HRBE.out]; rfl, by rw [HRBE.out]; exact HR11.out, HX11.out, HN11.out, by rw [HRBE.out]; exact HO11.out⟩

set_option maxHeartbeats 1000000 in
theorem put_not (A : Option Addr) (c : Nat) (l : List Int) (w : World) (hr : Reads w .u64 A l) (hl : l.length ≤ 1000000000) (e : Int) (he : checkR l = e) (h0 : e ≠ 0) :
    Calls Try.prog 22 #[.slice A l.length c] w fun e' w' => e' = .returned (.tuple #[.slice none 0 0, .int .i64 e]) ∧ Ext w w' := by
  have HR := Lib.hid hr
  have HC := Lib.hid he
  have d0 : (e != 0) = true := by simpa using h0
  clear hr he h0
  go_enter Try.func22, Try.ntmps22
  go_wp2_with fail
  refine (check_c A c l w HR.out hl).mono ?_
  rintro e w1 ⟨rfl, hx1⟩
  rw [HC.out]
  have HX1 := Lib.hid hx1
  clear hx1
  go_wp2_with fail
  go_ret2
  exact ⟨rfl, HX1.out⟩
end Go.Proofs.Ytlmelcfiegamaaa.Rice
/- The fixed fact of chapter 5: what Put makes of 1, 2, 3. -/
namespace Go.Proofs.Ytlmelcfiegamaaa.Rice
open Go.RowKit Go.Proofs.Ytlmelcfiegamaaa.Own Go.Proofs.Ytlmelcfiegamaaa.Rely Go.Proofs.Ytlmelcfiegamaaa.Bits Go.Proofs.Ytlmelcfiegamaaa.Wire
attribute [local go_sem] max_ints min_ints

theorem rises123 : Rises [1, 2, 3] := by
  intro i hi
  match i, hi with
  | 0, _ => decide
  | 1, _ => decide
theorem u123 : U64s [1, 2, 3] := by intro x hx; simp only [List.mem_cons, List.not_mem_nil, or_false] at hx; rcases hx with rfl | rfl | rfl <;> decide
theorem enc3 : enc 3 = [3] := enc_small (by decide)
theorem enc1 : enc 1 = [1] := enc_small (by decide)
theorem rice123 : riceB (gaps [1, 2, 3]) = [3, 0, 1, 128] := by
  have h1 : gaps [1, 2, 3] = [1, 0, 0] := by decide
  have h2 : param [1, 0, 0] = 0 := by decide +kernel
  have h3 : pack (bitsL 0 [1, 0, 0]) = [128] := by decide +kernel
  unfold riceB
  rw [h1, h2, h3]
  show enc 3 ++ [(0 : Int)] ++ enc 1 ++ [128] = _
  rw [enc3, enc1]; rfl

set_option maxHeartbeats 2000000 in
theorem awake5 (w : World) : Calls Try.prog 21 #[] w fun e w' => e = .returned (.bool true) ∧ Below w.heap.size w w' := by
  go_enter Try.func21, Try.ntmps21
  go_wp2_with fail
  have hR := (Row.lit 37 .u64 [1, 2, 3] w (by decide)).readsAt
  have hb1 : Ext w (w.alloc (.cells #[.int .u64 1, .int .u64 2, .int .u64 3] 37)) := (Below.refl _ _).alloc (Nat.le_refl _) _
  have HB1 := Lib.hid hb1
  clear hb1
  refine (put_rises (some ⟨w.heap.size, 0, none⟩) 3 [1, 2, 3] _ hR (by decide) u123 rises123).mono ?_
  rintro e w2 ⟨A, c, rfl, hr, hx, _, _⟩
  rw [rice123] at hr ⊢
  have hcv : (convert 27 9 (.slice A 4 c)).run Try.prog w2 = .ok (.string (strOfNums [3, 0, 1, 128])) w2 := hr.string (P := Try.prog) Try.underlying27 Try.underlying5 Try.underlying9 c
  have hlit : ((strOfNums [3, 0, 1, 128]).toList == [3, 0, 1, 128]) = true := by rw [strOfNums_toList]; decide
  have HB := Lib.hid (Ext.trans _ _ _ HB1.out hx)
  clear hr hx
  go_wp2_with fail
  go_ret
  exact ⟨rfl, HB.out⟩
end Go.Proofs.Ytlmelcfiegamaaa.Rice
