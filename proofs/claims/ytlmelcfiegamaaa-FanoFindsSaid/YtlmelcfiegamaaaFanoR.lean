/- A row of numbers that don't fall, told by its fields: for the printed words. -/
import Derived.Test.YtlmelcfiegamaaaFanoS
import Derived.Test.YtlmelcfiegamaaaKd
namespace Go.Proofs.Ytlmelcfiegamaaa.Fano
open Go.RowKit Go.Proofs.Ytlmelcfiegamaaa.Own Go.Proofs.Ytlmelcfiegamaaa.Rely Go.Proofs.Ytlmelcfiegamaaa.Bits Go.Proofs.YtlmelcfiegamaaaW.PrintWords

def onesFrom (B : List Int) (at_ : Nat) : Nat → Nat
  | 0 => 0
  | f + 1 => if bitAt B at_ then onesFrom B (at_ + 1) f + 1 else 0
theorem onesFrom_eq {B : List Int} : ∀ (u at_ f : Nat), Ones B at_ u → bitAt B (at_ + u) = false → u < f → onesFrom B at_ f = u
  | 0, at_, f, _, h, hf => by
    obtain ⟨f, rfl⟩ : ∃ q, f = q + 1 := ⟨f - 1, by omega⟩
    rw [Nat.add_zero] at h
    unfold onesFrom; rw [h]; rfl
  | u + 1, at_, f, h1, h, hf => by
    obtain ⟨f, rfl⟩ : ∃ q, f = q + 1 := ⟨f - 1, by omega⟩
    have h0 := h1 0 (by omega)
    rw [Nat.add_zero] at h0
    unfold onesFrom
    rw [h0, if_pos rfl, onesFrom_eq u (at_ + 1) f (fun i hi => by have := h1 (i + 1) (by omega); rwa [show at_ + 1 + i = at_ + (i + 1) by omega]) (by rw [show at_ + 1 + u = at_ + (u + 1) by omega]; exact h) (by omega)]
/-- The numbers, by the fields. -/
def decL (low : Nat) (lows high : List Int) : Nat → Nat → Nat → Nat → List Int
  | 0, _, _, _ => []
  | n + 1, i, pos, up => (((up + onesFrom high pos (8 * high.length + 1)) * 2 ^ low + num lows (i * low) low : Nat) : Int) :: decL low lows high n (i + 1) (pos + onesFrom high pos (8 * high.length + 1) + 1) (up + onesFrom high pos (8 * high.length + 1))
theorem decL_drop {l : List Int} (hn : NF l) (hu : U32s l) : ∀ (n i : Nat), i + n = l.length → decL (lowF l) (lowsF l) (highF l) n i (i + wasN (lowF l) l i) (wasN (lowF l) l i) = l.drop i
  | 0, i, h => by
    obtain rfl : i = l.length := by omega
    rw [List.drop_length]; rfl
  | n + 1, i, h => by
    have hi : i < l.length := by omega
    obtain ⟨h1, h2, h3⟩ := high_at hn (lowF l) hi
    have h4 := (low_at (lowF l) l hi).1
    have hw := was_le hn (lowF l) hi
    have ho : onesFrom (highF l) (i + wasN (lowF l) l i) (8 * (highF l).length + 1) = upN (lowF l) l i - wasN (lowF l) l i := onesFrom_eq _ _ _ h1 h2 (by have : (highF l).length = (pack (highT (lowF l) l l.length)).length := rfl; omega)
    have hx := hu.at hi
    rw [List.drop_eq_getElem_cons hi]
    unfold decL
    rw [ho, show wasN (lowF l) l i + (upN (lowF l) l i - wasN (lowF l) l i) = wasN (lowF l) l (i + 1) by show _ = upN (lowF l) l i; omega]
    congr 1
    · have h5 : num (lowsF l) (i * lowF l) (lowF l) = val l i % 2 ^ lowF l := h4
      rw [h5]
      have h6 : wasN (lowF l) l (i + 1) * 2 ^ lowF l + val l i % 2 ^ lowF l = val l i := Nat.div_add_mod' _ _
      rw [h6]
      unfold val
      simp only [List.getD_eq_getElem?_getD, List.getElem?_eq_getElem hi, Option.getD_some] at hx ⊢
      omega
    · have := decL_drop hn hu n (i + 1) (by omega)
      rw [← this]
      congr 1
      have e : wasN (lowF l) l (i + 1) = upN (lowF l) l i := rfl
      omega
def nfB (l : List Int) : Bool := (List.range (l.length - 1)).all (fun i => decide (l.getD i 0 ≤ l.getD (i + 1) 0)) && l.all (fun x => decide (0 ≤ x ∧ x ≤ 4294967295)) && decide (l.length ≤ 4096)
theorem nfB_iff (l : List Int) : nfB l = true ↔ NF l ∧ U32s l ∧ l.length ≤ 4096 := by
  unfold nfB NF U32s
  simp only [Bool.and_eq_true, List.all_eq_true, List.mem_range, decide_eq_true_eq]
  constructor
  · rintro ⟨⟨h1, h2⟩, h3⟩
    exact ⟨fun i hi => h1 i (by omega), h2, h3⟩
  · rintro ⟨h1, h2, h3⟩
    exact ⟨⟨fun i hi => h1 i (by omega), h2⟩, h3⟩
/-- The numbers, if the fields are those of some. -/
def rowOf (many last low : Int) (lows high : List Int) : Option (List Int) :=
  let l := decL low.toNat lows high many.toNat 0 0 0
  if nfB l = true ∧ many = l.length ∧ last = lastN l ∧ low = lowF l ∧ lows = lowsF l ∧ high = highF l then some l else none
theorem rowOf_eq {l : List Int} (hn : NF l) (hu : U32s l) (hl : l.length ≤ 4096) : rowOf l.length (lastN l) (lowF l) (lowsF l) (highF l) = some l := by
  have h := decL_drop hn hu l.length 0 (by omega)
  have h0 : wasN (lowF l) l 0 = 0 := rfl
  rw [h0, List.drop_zero] at h
  unfold rowOf
  rw [Int.toNat_natCast, Int.toNat_natCast, h]
  simp only
  rw [if_pos (by simp [(nfB_iff l).2 ⟨hn, hu, hl⟩])]
theorem rowOf_some {many last low : Int} {lows high l : List Int} (h : rowOf many last low lows high = some l) : nfB l = true ∧ many = l.length ∧ last = lastN l ∧ low = lowF l ∧ lows = lowsF l ∧ high = highF l := by
  unfold rowOf at h
  simp only at h
  split at h
  · rename_i hc
    obtain rfl := Option.some.inj h
    exact hc
  · cases h
theorem own_up {w w' : World} {xs : List Int} {v : Value} {S1 S' : Nat → Prop} (hrow : Row 5 .u8 v xs w' S1) (hs : ∀ k, S1 k → S' k) (hst : Step (fun _ => False) S' w w') : w'.ownsRow w.heap.size 5 1 v xs.length (xs.map (Value.int .u8)) :=
  Rice.own_raise hrow.1 fun b hb => (hst.fresh b (hs b ((hrow.2 b).2 hb))).resolve_left id
/-- Of, in the printed words. -/
theorem of_R (A : Option Addr) (c : Nat) (l : List Int) (w : World) (hr : Reads w .u32 A l) (hl : l.length ≤ 4096) (hu : U32s l) (hnf : NF l) :
    Calls Try.prog 17 #[.slice A l.length c] w fun e w' => ∃ v3 v4 : Value, e = .returned (.tuple #[.agg #[.int .i64 l.length, .int .u32 (lastN l), .int .i64 (lowF l), v3, v4], .int .i64 0]) ∧
      Kd.R (Kd.int .u8) 5 w' w.heap.size (fun k => some k ≠ v4.ownBlock) v3 (lowsF l) ∧ Kd.R (Kd.int .u8) 5 w' w.heap.size (fun k => some k ≠ v3.ownBlock) v4 (highF l) ∧ Below w.heap.size w w' := by
  by_cases h0 : 0 < l.length
  · refine (of_nf A c l w hr hl h0 hu hnf).mono ?_
    rintro e w' ⟨A1, c1, A2, c2, S', rfl, ⟨S1, S2, h1, h2, d, hiff⟩, hst⟩
    refine ⟨_, _, rfl, Kd.R_of_own (own_up h1 (fun k hk => (hiff k).2 (.inl hk)) hst) (fun k hk e => ?_), Kd.R_of_own (own_up h2 (fun k hk => (hiff k).2 (.inr hk)) hst) (fun k hk e => ?_), below_of hst⟩
    · exact d k ((h1.2 k).2 hk) ((h2.2 k).2 e.symm)
    · exact d k ((h1.2 k).2 e.symm) ((h2.2 k).2 hk)
  · obtain rfl : l = [] := List.eq_nil_of_length_eq_zero (by omega)
    refine (of_nil A c w).mono ?_
    rintro e w' ⟨rfl, hx⟩
    exact ⟨.slice none 0 0, .slice none 0 0, rfl, Kd.R_nil _ _ _ _ _, Kd.R_nil _ _ _ _ _, hx⟩
theorem lies_of {w : World} {many last low : Int} {lows high l : List Int} {A3 A4 : Option Addr} {c3 c4 : Nat} (h : rowOf many last low lows high = some l) (h3 : Kd.C (Kd.int .u8) w A3 lows.length lows) (h4 : Kd.C (Kd.int .u8) w A4 high.length high) : Lies w l A3 A4 c3 c4 := by
  obtain ⟨h1, _, _, _, e4, e5⟩ := rowOf_some h
  obtain ⟨a, b, c⟩ := (nfB_iff l).1 h1
  refine ⟨a, b, c, ?_, ?_⟩
  · rw [← e4]; exact KdX.reads_of_C h3
  · rw [← e5]; exact KdX.reads_of_C h4
def selR (l : List Int) (i : Int) : Int × Bool := if 0 ≤ i ∧ i < l.length then (val l i.toNat, true) else (0, false)
theorem selV_R (l : List Int) (i : Int) : selV l i = .tuple #[.int .u32 (selR l i).1, .bool (selR l i).2] := by
  unfold selV selR; split <;> rfl
def fromR (l : List Int) (m : Int) : Int × Int × Bool := if fromN l m < l.length then (val l (fromN l m), fromN l m, true) else (0, 0, false)
theorem fromV_R (l : List Int) (m : Int) : fromV l m = .tuple #[.int .u32 (fromR l m).1, .int .i64 (fromR l m).2.1, .bool (fromR l m).2.2] := by
  unfold fromV fromR; split <;> rfl
end Go.Proofs.Ytlmelcfiegamaaa.Fano
/- herbariumlaw06's Slow: numbers that do not fall, of small steps. -/
namespace Go.Proofs.Ytlmelcfiegamaaa.Fano
open Go.RowKit Go.Proofs.Ytlmelcfiegamaaa.Own Go.Proofs.Ytlmelcfiegamaaa.Rely Go.Proofs.Ytlmelcfiegamaaa.Bits Go.Proofs.YtlmelcfiegamaaaW.PrintWords

theorem info_u32 : (Try.prog.info? 26).map (fun i => (i.zero, i.size, i.bytes)) = some (some (.int .u32 0), 1, 4) := by kernel_rfl
def slowN (far : List Int) (i : Nat) (last g : Int) : Int :=
  if i < far.length ∧ Int.tmod (far.getD i 0) 7 = 0 then (last + far.getD i 0) % 4294967296 else (last + Int.tmod g 300) % 4294967296
def slowG (far : List Int) : List Int → Nat → Int → List Int
  | [], _, _ => []
  | g :: gs, i, last => if slowN far i last g < last then [] else slowN far i last g :: slowG far gs (i + 1) (slowN far i last g)
theorem slowN_range (far : List Int) (i : Nat) (last g : Int) : 0 ≤ slowN far i last g ∧ slowN far i last g ≤ 4294967295 := by
  unfold slowN; split <;> omega
theorem slowG_len (far : List Int) : ∀ (gs : List Int) (i : Nat) (last : Int), (slowG far gs i last).length ≤ gs.length
  | [], _, _ => Nat.le_refl _
  | g :: gs, i, last => by
    unfold slowG
    split
    · simp
    · have := slowG_len far gs (i + 1) (slowN far i last g)
      simp only [List.length_cons]; omega
theorem slowG_u32 (far : List Int) : ∀ (gs : List Int) (i : Nat) (last : Int), U32s (slowG far gs i last)
  | [], _, _ => fun x hx => absurd hx (by simp [slowG])
  | g :: gs, i, last => by
    unfold slowG
    split
    · intro x hx; simp at hx
    · intro x hx
      rcases List.mem_cons.1 hx with rfl | hx
      · exact slowN_range _ _ _ _
      · exact slowG_u32 far gs _ _ x hx
theorem slowG_ge (far : List Int) : ∀ (gs : List Int) (i : Nat) (last : Int), 0 < (slowG far gs i last).length → last ≤ (slowG far gs i last).getD 0 0
  | [], _, _, h => by simp [slowG] at h
  | g :: gs, i, last, h => by
    unfold slowG at h ⊢
    split
    · rename_i hc; rw [if_pos hc] at h; simp at h
    · rename_i hc; simp; omega
theorem slowG_nf (far : List Int) : ∀ (gs : List Int) (i : Nat) (last : Int), NF (slowG far gs i last)
  | [], _, _ => fun i hi => by simp [slowG] at hi
  | g :: gs, i, last => by
    unfold slowG
    split
    · intro i hi; simp at hi
    · intro j hj
      have ih := slowG_nf far gs (i + 1) (slowN far i last g)
      cases j with
      | zero =>
        have := slowG_ge far gs (i + 1) (slowN far i last g) (by simp at hj; omega)
        simpa using this
      | succ j => exact ih j (by simp at hj; omega)
def slowL (gaps far : List Int) : List Int := slowG far gaps 0 0

set_option maxHeartbeats 4000000 in
set_option maxRecDepth 20000 in
theorem slow_c (A B : Option Addr) (c d : Nat) (gaps far : List Int) (w : World) (hr : Reads w .u16 A gaps) (hr' : Reads w .u32 B far) (hl : gaps.length ≤ 4096) (hl' : far.length ≤ 9223372036854775807)
    (hg : ∀ x ∈ gaps, 0 ≤ x ∧ x ≤ 65535) (hf : ∀ x ∈ far, 0 ≤ x ∧ x ≤ 4294967295) :
    Calls Try.prog 16 #[.slice A gaps.length c, .slice B far.length d] w fun e w' => ∃ A' c' S', e = .returned (.slice A' (slowL gaps far).length c') ∧ Row 26 .u32 (.slice A' (slowL gaps far).length c') (slowL gaps far) w' S' ∧ Step (fun _ => False) S' w w' := by
  have HR := Lib.hid hr
  have HR' := Lib.hid hr'
  have HG := Lib.hid hg
  have HRN := Lib.hid (Row.nil 26 .u32 w)
  have HF := Lib.hid hf
  clear hr hr' hg hf
  go_enter Try.func16, Try.ntmps16
  go_wp2_with fail
  go_loopw [5, 6, 12] (fun v t i wr => ∃ (k : Nat) (L : Nat) (P : List Int) (An : Option Addr) (cn : Nat) (S' : Nat → Prop), k ≤ gaps.length ∧ i = .int .i64 k ∧ t = .int .u32 L ∧ L ≤ 4294967295 ∧ slowL gaps far = P ++ slowG far (gaps.drop k) k L ∧ P.length = k ∧ v = .slice An P.length cn ∧ Row 26 .u32 (.slice An P.length cn) P wr S' ∧ Step (fun _ => False) S' w wr) (fun _ _ i _ => gaps.length - (intOf i).toNat)
  case atStart => exact ⟨0, 0, [], none, 0, _, by omega, rfl, rfl, by omega, rfl, rfl, rfl, HRN.out, ⟨Keep.refl _ _, fun _ q => .inl q⟩⟩
  case round =>
    obtain ⟨k, L, P, An, cn, S', hk, rfl, rfl, hL, heq, hP, rfl, hw, hst⟩ := hrel
    have HW := Lib.hid hw
    have ST := Lib.hid hst
    have HEQ := Lib.hid heq
    have HPL := Lib.hid hP
    have hPle : P.length ≤ 4096 := by omega
    clear hw hst heq hP
    by_cases hlt : k < gaps.length
    · obtain ⟨b, o', rfl, hblt, cx⟩ := (HR.out.later (ST.out.keep.below (Nat.le_refl _) (fun _ _ x => x))).at hlt
      obtain ⟨g, hgv⟩ : ∃ g : Nat, gaps.getD k 0 = (g : Int) ∧ g ≤ 65535 := by
        have := HG.out (gaps.getD k 0) (by rw [List.getD_eq_getElem?_getD, List.getElem?_eq_getElem hlt]; exact List.getElem_mem hlt)
        exact ⟨(gaps.getD k 0).toNat, by omega⟩
      have HN := Lib.hid hgv.1
      have hg2 := hgv.2
      rw [hgv.1] at cx
      have hk4 : (k : Int) < (gaps.length : Int) := by omega
      have HD := Lib.hid (show slowG far (gaps.drop k) k L = if slowN far k L g < L then [] else slowN far k L g :: slowG far (gaps.drop (k + 1)) (k + 1) (slowN far k L g) by
        rw [List.drop_eq_getElem_cons hlt]
        have : gaps[k] = (g : Int) := by rw [← HN.out]; simp [List.getD_eq_getElem?_getD, List.getElem?_eq_getElem hlt]
        rw [this]; rfl)
      clear hgv
      have ht : Int.tmod (g : Int) 300 = ((g % 300 : Nat) : Int) := by rw [Int.tmod_eq_emod_of_nonneg (by omega)]; rfl
      obtain ⟨m, hm3, hm⟩ : ∃ m : Nat, m < 300 ∧ g % 300 = m := ⟨_, by omega, rfl⟩
      rw [hm] at ht
      obtain ⟨N, htw, hN⟩ : ∃ N : Nat, (((L : Int) + (m : Int)) % 4294967296) = (N : Int) ∧ N ≤ 4294967295 := ⟨(L + m) % 4294967296, by omega, by omega⟩
      clear hm
      by_cases hf : k < far.length
      · obtain ⟨b2, o2, rfl, hb2, cy⟩ := (HR'.out.later (ST.out.keep.below (Nat.le_refl _) (fun _ _ x => x))).at hf
        have hf4 : (k : Int) < (far.length : Int) := by omega
        obtain ⟨f, hfv, hfr⟩ : ∃ f : Nat, far.getD k 0 = (f : Int) ∧ f ≤ 4294967295 := by
          have := HF.out (far.getD k 0) (by rw [List.getD_eq_getElem?_getD, List.getElem?_eq_getElem hf]; exact List.getElem_mem hf)
          exact ⟨(far.getD k 0).toNat, by omega, by omega⟩
        have HFV := Lib.hid hfv
        rw [hfv] at cy
        clear hfv
        obtain ⟨f7, ht7⟩ : ∃ f7 : Nat, Int.tmod (f : Int) 7 = (f7 : Int) := ⟨f % 7, by rw [Int.tmod_eq_emod_of_nonneg (by omega)]; rfl⟩
        by_cases h7 : f7 = 0
        · subst h7
          obtain ⟨F, hfw, hF⟩ : ∃ F : Nat, (((L : Int) + (f : Int)) % 4294967296) = (F : Int) ∧ F ≤ 4294967295 := ⟨(L + f) % 4294967296, by omega, by omega⟩
          have HM := Lib.hid (show slowN far k L g = (F : Int) by unfold slowN; rw [HFV.out, if_pos ⟨hf, ht7⟩, hfw])
          by_cases hbr : F < L
          · have hbr' : ((F : Nat) : Int) < (L : Int) := by omega
            have HE := Lib.hid (show slowL gaps far = P by rw [HEQ.out, HD.out, HM.out, if_pos (by omega), List.append_nil])
            go_wp2_with fail
            try simp only [Exit.noGoto_ret]
            go_ret
            rw [HE.out]
            first | exact ⟨An, cn, S', rfl, HW.out, ST.out⟩ | exact ⟨An, cn, rfl, S', HW.out, ST.out⟩
          · have hbr' : ¬ ((F : Nat) : Int) < (L : Int) := by omega
            have HE := Lib.hid (show slowL gaps far = (P ++ [((F : Nat) : Int)]) ++ slowG far (gaps.drop (k + 1)) (k + 1) ((F : Nat) : Int) by rw [HEQ.out, HD.out, HM.out, if_neg (by omega)]; simp)
            have hfe : (L : Int) + (f : Int) = (F : Int) := by omega
            clear hbr hfw
            go_wp2_with (at_builtin; refine append_lit _ 26 rfl _ _ 23 rfl .u32 4 Try.underlying23 info_u32 (by decide) _ P [((F : Nat) : Int)] 1 1 rfl rfl rfl rfl Lcl.emp (Sep.emp_right HW.out) (by simp; omega) ?_; intro A' c' w' S2 h' st'; have H' := Lib.hid (Sep.left_of_emp h'); have ST' := Lib.hid (ST.out.trans st'); clear h' st')
            refine ⟨⟨k + 1, F, P ++ [((F : Nat) : Int)], A', c', S2, by omega, by go_num, rfl, by omega, HE.out, by simp [HPL.out], by rw [List.length_append]; rfl, by rw [List.length_append]; exact H'.out, ST'.out⟩, by simp [intOf]; omega⟩
        · have h7' : ((f7 : Int) == 0) = false := by rw [beq_eq_false_iff_ne]; omega
          have HM := Lib.hid (show slowN far k L g = (N : Int) by unfold slowN; rw [HFV.out, if_neg (by rintro ⟨_, h⟩; omega), ht, htw])
          by_cases hbr : N < L
          · have hbr' : ((N : Nat) : Int) < (L : Int) := by omega
            have HE := Lib.hid (show slowL gaps far = P by rw [HEQ.out, HD.out, HM.out, if_pos (by omega), List.append_nil])
            go_wp2_with fail
            try simp only [Exit.noGoto_ret]
            go_ret
            rw [HE.out]
            first | exact ⟨An, cn, S', rfl, HW.out, ST.out⟩ | exact ⟨An, cn, rfl, S', HW.out, ST.out⟩
          · have hbr' : ¬ ((N : Nat) : Int) < (L : Int) := by omega
            have HE := Lib.hid (show slowL gaps far = (P ++ [((N : Nat) : Int)]) ++ slowG far (gaps.drop (k + 1)) (k + 1) ((N : Nat) : Int) by rw [HEQ.out, HD.out, HM.out, if_neg (by omega)]; simp)
            have hfe : (L : Int) + (m : Int) = (N : Int) := by omega
            clear hbr htw
            go_wp2_with (at_builtin; refine append_lit _ 26 rfl _ _ 23 rfl .u32 4 Try.underlying23 info_u32 (by decide) _ P [((N : Nat) : Int)] 1 1 rfl rfl rfl rfl Lcl.emp (Sep.emp_right HW.out) (by simp; omega) ?_; intro A' c' w' S2 h' st'; have H' := Lib.hid (Sep.left_of_emp h'); have ST' := Lib.hid (ST.out.trans st'); clear h' st')
            refine ⟨⟨k + 1, N, P ++ [((N : Nat) : Int)], A', c', S2, by omega, by go_num, rfl, by omega, HE.out, by simp [HPL.out], by rw [List.length_append]; rfl, by rw [List.length_append]; exact H'.out, ST'.out⟩, by simp [intOf]; omega⟩
      · have hf4 : ¬ (k : Int) < (far.length : Int) := by omega
        have HM := Lib.hid (show slowN far k L g = (N : Int) by unfold slowN; rw [if_neg (by rintro ⟨h, _⟩; omega), ht, htw])
        by_cases hbr : N < L
        · have hbr' : ((N : Nat) : Int) < (L : Int) := by omega
          have HE := Lib.hid (show slowL gaps far = P by rw [HEQ.out, HD.out, HM.out, if_pos (by omega), List.append_nil])
          go_wp2_with fail
          try simp only [Exit.noGoto_ret]
          go_ret
          rw [HE.out]
          first | exact ⟨An, cn, S', rfl, HW.out, ST.out⟩ | exact ⟨An, cn, rfl, S', HW.out, ST.out⟩
        · have hbr' : ¬ ((N : Nat) : Int) < (L : Int) := by omega
          have HE := Lib.hid (show slowL gaps far = (P ++ [((N : Nat) : Int)]) ++ slowG far (gaps.drop (k + 1)) (k + 1) ((N : Nat) : Int) by rw [HEQ.out, HD.out, HM.out, if_neg (by omega)]; simp)
          have hfe : (L : Int) + (m : Int) = (N : Int) := by omega
          clear hbr htw
          go_wp2_with (at_builtin; refine append_lit _ 26 rfl _ _ 23 rfl .u32 4 Try.underlying23 info_u32 (by decide) _ P [((N : Nat) : Int)] 1 1 rfl rfl rfl rfl Lcl.emp (Sep.emp_right HW.out) (by simp; omega) ?_; intro A' c' w' S2 h' st'; have H' := Lib.hid (Sep.left_of_emp h'); have ST' := Lib.hid (ST.out.trans st'); clear h' st')
          refine ⟨⟨k + 1, N, P ++ [((N : Nat) : Int)], A', c', S2, by omega, by go_num, rfl, by omega, HE.out, by simp [HPL.out], by rw [List.length_append]; rfl, by rw [List.length_append]; exact H'.out, ST'.out⟩, by simp [intOf]; omega⟩
    · obtain rfl : k = gaps.length := by omega
      rw [List.drop_length, show slowG far [] gaps.length L = [] from rfl, List.append_nil] at HEQ
      go_wp2_with fail
      try simp only [Exit.noGoto_ret]
      go_ret
      rw [HEQ.out]
      first | exact ⟨An, cn, S', rfl, HW.out, ST.out⟩ | exact ⟨An, cn, rfl, S', HW.out, ST.out⟩
theorem slow_R (A B : Option Addr) (c d : Nat) (gaps far : List Int) (w : World) (hr : Reads w .u16 A gaps) (hr' : Reads w .u32 B far) (hl : gaps.length ≤ 4096) (hl' : far.length ≤ 9223372036854775807)
    (hg : ∀ x ∈ gaps, 0 ≤ x ∧ x ≤ 65535) (hf : ∀ x ∈ far, 0 ≤ x ∧ x ≤ 4294967295) :
    Calls Try.prog 16 #[.slice A gaps.length c, .slice B far.length d] w fun e w' => ∃ v : Value, e = .returned v ∧ Kd.R (Kd.int .u32) 26 w' w.heap.size (fun _ => True) v (slowL gaps far) ∧ Below w.heap.size w w' := by
  refine (slow_c A B c d gaps far w hr hr' hl hl' hg hf).mono ?_
  rintro e w' ⟨A1, c1, S', rfl, h1, hst⟩
  exact ⟨_, rfl, KdX.R_of_row (Rice.own_raise h1.1 fun b hb => (hst.fresh b ((h1.2 b).2 hb)).resolve_left id), below_of hst⟩
end Go.Proofs.Ytlmelcfiegamaaa.Fano
/- The first number that isn't below one; numbers that do not fall. -/
namespace Go.Proofs.Ytlmelcfiegamaaa.Fano
open Go.RowKit Go.Proofs.Ytlmelcfiegamaaa.Bits
theorem firstN_spec (l : List Int) (m : Int) : ∀ (f k : Nat), k + f = l.length → k ≤ firstN l m f k ∧ firstN l m f k ≤ l.length ∧ (∀ j, k ≤ j → j < firstN l m f k → (val l j : Int) < m) ∧ (firstN l m f k < l.length → m ≤ val l (firstN l m f k))
  | 0, k, h => ⟨Nat.le_refl _, by unfold firstN; omega, fun j h1 h2 => absurd h2 (by unfold firstN; omega), fun h2 => absurd h2 (by unfold firstN; omega)⟩
  | f + 1, k, h => by
    unfold firstN
    split
    · rename_i hc
      exact ⟨Nat.le_refl _, by omega, fun j h1 h2 => by omega, fun _ => hc⟩
    · rename_i hc
      obtain ⟨a, b, c, d⟩ := firstN_spec l m f (k + 1) (by omega)
      refine ⟨by omega, b, fun j h1 h2 => ?_, d⟩
      by_cases hj : j = k
      · subst hj; omega
      · exact c j (by omega) h2
theorem fromN_spec (l : List Int) (m : Int) : fromN l m ≤ l.length ∧ (∀ j, j < fromN l m → (val l j : Int) < m) ∧ (fromN l m < l.length → m ≤ val l (fromN l m)) := by
  obtain ⟨_, b, c, d⟩ := firstN_spec l m l.length 0 (by omega)
  exact ⟨b, fun j h => c j (Nat.zero_le _) h, d⟩
theorem fromN_uniq {l : List Int} {m : Int} {n : Nat} (hn : n ≤ l.length) (h1 : ∀ j, j < n → (val l j : Int) < m) (h2 : n < l.length → m ≤ val l n) : fromN l m = n := by
  obtain ⟨a, b, c⟩ := fromN_spec l m
  rcases Nat.lt_trichotomy (fromN l m) n with h | h | h
  · have := h1 _ h; have := c (by omega); omega
  · exact h
  · have := b _ h; have := h2 (by omega); omega
theorem val_mono {l : List Int} (hn : NF l) (hu : U32s l) {i j : Nat} (h : i ≤ j) (hj : j < l.length) : val l i ≤ val l j := by
  induction j with
  | zero => obtain rfl : i = 0 := by omega
            exact Nat.le_refl _
  | succ j ih =>
    by_cases he : i = j + 1
    · subst he; exact Nat.le_refl _
    · have h1 := ih (by omega) (by omega)
      have h2 := hn j hj
      have h3 := (hu.at (show j < l.length by omega)).1
      unfold val at *
      omega
end Go.Proofs.Ytlmelcfiegamaaa.Fano
