/- The law WireJoins, at every input. -/
import Derived.Test.YtpgnlpcnancplaaWireGrows
import Derived.Test.YtpgnlpcnancplaaRead
import Derived.Test.YtpgnlpcnancplaaRelyD
namespace Go.Proofs.Ytpgnlpcnancplaa.Wire
open Go.RowKit Go.Proofs.Ytpgnlpcnancplaa.Own Go.Proofs.Ytpgnlpcnancplaa.Rely
attribute [local go_sem] max_ints min_ints

/-- Numbers as bytes; numbers with a sign, by their bits, as bytes. -/
def encU : List Int → List Int
  | [] => []
  | x :: l => enc x.toNat ++ encU l
def encI : List Int → List Int
  | [] => []
  | x :: l => enc (Bit.zig (wrap64 x)) ++ encI l
theorem encU_app : ∀ a b : List Int, encU (a ++ b) = encU a ++ encU b
  | [], b => rfl
  | x :: a, b => by simp only [List.cons_append, encU, encU_app a b, List.append_assoc]
theorem encI_app : ∀ a b : List Int, encI (a ++ b) = encI a ++ encI b
  | [], b => rfl
  | x :: a, b => by simp only [List.cons_append, encI, encI_app a b, List.append_assoc]
def In64 (l : List Int) : Prop := ∀ x ∈ l, 0 ≤ x ∧ x ≤ 18446744073709551615
theorem u64_nat {x : Int} (h : 0 ≤ x ∧ x ≤ 18446744073709551615) : U64 x.toNat := by show x.toNat < 18446744073709551616; omega
theorem wrap_range (x : Int) : -9223372036854775808 ≤ wrap64 x ∧ wrap64 x ≤ 9223372036854775807 := by unfold wrap64; omega
theorem zigw_u64 (x : Int) : U64 (Bit.zig (wrap64 x)) := Bit.zig_lt (wrap_range x).1 (wrap_range x).2
theorem encU_len : ∀ l : List Int, In64 l → (encU l).length ≤ 10 * l.length
  | [], _ => by simp [encU]
  | x :: l, h => by
    have h1 := enc_ten (u64_nat (h x List.mem_cons_self))
    have h2 := encU_len l fun y hy => h y (List.mem_cons_of_mem _ hy)
    simp only [encU, List.length_append, List.length_cons]; omega
theorem encI_len : ∀ l : List Int, (encI l).length ≤ 10 * l.length
  | [] => by simp [encI]
  | x :: l => by
    have h1 := enc_ten (zigw_u64 x)
    have h2 := encI_len l
    simp only [encI, List.length_append, List.length_cons]; omega
theorem encU_bytes : ∀ l, IsBytes (encU l)
  | [] => fun x hx => by simp [encU] at hx
  | x :: l => IsBytes.app (enc_bytes _) (encU_bytes l)
theorem encI_bytes : ∀ l, IsBytes (encI l)
  | [] => fun x hx => by simp [encI] at hx
  | x :: l => IsBytes.app (enc_bytes _) (encI_bytes l)
theorem take_snoc (xs : List Int) (k : Nat) (hk : k < xs.length) : xs.take (k + 1) = xs.take k ++ [xs.getD k 0] ∧ xs = xs.take k ++ (xs.getD k 0 :: xs.drop (k + 1)) := by
  have hx : xs.getD k 0 = xs[k] := by rw [List.getD_eq_getElem?_getD, List.getElem?_eq_getElem hk]; rfl
  rw [hx]
  exact ⟨by rw [List.take_add_one, List.getElem?_eq_getElem hk]; rfl, by rw [← List.drop_eq_getElem_cons hk, List.take_append_drop]⟩
theorem encU_step (xs : List Int) (k m : Nat) (hk : k < xs.length) (hm : xs.getD k 0 = (m : Int)) : encU (xs.take (k + 1)) = encU (xs.take k) ++ enc m ∧ encU xs = encU (xs.take k) ++ (enc m ++ encU (xs.drop (k + 1))) := by
  obtain ⟨h1, h2⟩ := take_snoc xs k hk
  constructor
  · rw [h1, encU_app, hm]; simp [encU]
  · conv => lhs; rw [h2]
    rw [encU_app, hm]; simp [encU]
theorem encI_step (xs : List Int) (k : Nat) (hk : k < xs.length) : encI (xs.take (k + 1)) = encI (xs.take k) ++ enc (Bit.zig (wrap64 (xs.getD k 0))) ∧ encI xs = encI (xs.take k) ++ (enc (Bit.zig (wrap64 (xs.getD k 0))) ++ encI (xs.drop (k + 1))) := by
  obtain ⟨h1, h2⟩ := take_snoc xs k hk
  constructor
  · rw [h1, encI_app]; simp [encI]
  · conv => lhs; rw [h2]
    rw [encI_app]; simp [encI]

theorem third {A B C D : Asn} {w : World} {S : Nat → Prop} (h : Sep A (Sep B (Sep C D)) w S) : Sep C (Sep A (Sep B D)) w S := (h.imp_right fun _ hT => hT.second).second
theorem third' {A B C D : Asn} {w : World} {S : Nat → Prop} (h : Sep C (Sep A (Sep B D)) w S) : Sep A (Sep B (Sep C D)) w S := h.second.imp_right fun _ hT => hT.second
theorem belowF {S1 : Nat → Prop} {w w' : World} (h : Step (fun _ => False) S1 w w') : Below w.heap.size w w' := h.keep.below (Nat.le_refl _) (fun _ _ x => x)

theorem uint_fr (p : Nat) (A : Option Addr) (c : Nat) (X : List Int) (s : RS) (most : Nat) (B : Asn) (hB : Lcl B) (hrd : ∀ w S, B w S → Reads w .u8 A X) (hx : IsBytes X) :
    Tri Try.prog 31 #[.pointer (some ⟨p, 0, none⟩), .int .u64 most] (Sep (Rd p A c X s) B) (fun e => Fact (e = .returned (.int .u64 (rnum X most s).1)) (Sep (Rd p A c X (rnum X most s).2) B)) := by
  rintro w S ⟨S1, S2, h1, h2, d, q⟩
  refine (uint_calls p A c X s most w S1 hx h1 (fun w' k => hrd _ _ (hB.keep h2 fun x hx => k.block x (hB.lt h2 hx) (fun y => d x y hx)))).mono ?_
  rintro e w' ⟨S', ⟨he, h'⟩, st⟩
  have hs := Sep.step hB h2 d h' st
  have hS : S = fun k => S1 k ∨ S2 k := funext fun k => propext (q k)
  rw [hS]
  exact ⟨_, ⟨he, hs.1⟩, hs.2⟩
theorem int_fr (p : Nat) (A : Option Addr) (c : Nat) (X : List Int) (s : RS) (B : Asn) (hB : Lcl B) (hrd : ∀ w S, B w S → Reads w .u8 A X) (hx : IsBytes X) :
    Tri Try.prog 32 #[.pointer (some ⟨p, 0, none⟩)] (Sep (Rd p A c X s) B) (fun e => Fact (e = .returned (.int .i64 (Bit.zag (rnum X 18446744073709551615 s).1))) (Sep (Rd p A c X (rnum X 18446744073709551615 s).2) B)) := by
  rintro w S ⟨S1, S2, h1, h2, d, q⟩
  refine (int_calls p A c X s w S1 hx h1 (fun w' k => hrd _ _ (hB.keep h2 fun x hx => k.block x (hB.lt h2 hx) (fun y => d x y hx)))).mono ?_
  rintro e w' ⟨S', ⟨he, h'⟩, st⟩
  have hs := Sep.step hB h2 d h' st
  have hS : S = fun k => S1 k ∨ S2 k := funext fun k => propext (q k)
  rw [hS]
  exact ⟨_, ⟨he, hs.1⟩, hs.2⟩

theorem str_app (a b : List Int) : strOfNums a ++ strOfNums b = strOfNums (a ++ b) := by
  apply ByteArray.ext
  apply Array.ext'
  rw [ByteArray.data_append, Array.toList_append]
  show (strOfNums a).data.toList ++ (strOfNums b).data.toList = (strOfNums (a ++ b)).data.toList
  simp [strOfNums]
theorem size_str (xs : List Int) : (strOfNums xs).size = xs.length := by
  show (strOfNums xs).data.size = _
  simp [strOfNums]
theorem ext_drewN (w : World) (n : Nat) : Ext w (w.drewN n) := ⟨rfl, rfl, rfl, Nat.le_refl _, fun _ _ => rfl⟩
/-- Blocks of Z may be written, and what G tells of them stays. -/
def RK (Z : Nat → Prop) (G : World → Prop) (w w' : World) : Prop := Keep Z w w' ∧ (G w → G w')
theorem RK.refl (Z : Nat → Prop) (G : World → Prop) (w : World) : RK Z G w w := ⟨Keep.refl _ _, fun h => h⟩
theorem RK.trans (Z : Nat → Prop) (G : World → Prop) (a b c : World) (h : RK Z G a b) (k : RK Z G b c) : RK Z G a c := ⟨h.1.trans k.1 (fun _ _ q => q) (fun _ _ q => q), fun g => k.2 (h.2 g)⟩
theorem RK.ext {Z : Nat → Prop} {G : World → Prop} (hG : ∀ a b, G a → Ext a b → G b) (w w' : World) (h : Ext w w') : RK Z G w w' := ⟨Keep.of_below h, fun g => hG _ _ g h⟩
theorem keep_undrew {Z : Nat → Prop} {a b : World} (h : Keep Z a.drew b) : Keep Z a b := ⟨h.os, h.tape, h.output, h.size, h.block⟩

set_option maxHeartbeats 1000000 in
theorem wbytes_c (p : Nat) (L : List Int) (hL : L.length ≤ 1000000000) (w : World) (S : Nat → Prop) (h : Wr p L w S) : Calls Try.prog 30 #[.pointer (some ⟨p, 0, none⟩)] w
    fun e w' => ∃ A c, e = .returned (.slice A L.length c) ∧ Reads w' .u8 A L ∧ Ext w w' ∧ ∀ a, A = some a → w.heap.size ≤ a.block := by
  obtain ⟨A, c, c0, hr, _⟩ := wr_c0 h
  have hE := sepEmpty Lcl.emp (w := w) (S := fun _ => False) (fun _ x => x) 5 .u8
  have c4 : (w.alloc (.cells #[] 5)).cell? ⟨p, 0, none⟩ = some (.slice A L.length c) := (((Below.refl w.heap.size w).alloc (Nat.le_refl _) (.cells #[] 5)).cell (p := ⟨p, 0, none⟩) (World.block_lt_of_cell? w _ c0)).trans c0
  have HR := Lib.hid (hr.later (w' := w.alloc (.cells #[] 5)) ((Below.refl _ _).alloc (Nat.le_refl _) _))
  have H := Lib.hid hE
  clear h hE hr
  go_enter Try.func30, Try.ntmps30
  go_wp2_with (at_builtin; refine append_row _ rfl _ _ 26 rfl 5 .u8 1 Try.underlying26 info_u8 (by decide) _ [] L A L.length c rfl rfl rfl Lcl.emp H.out.1 HR.out (by simp; omega) ?_; intro A' c' w' S' h' st'; have H' := Lib.hid h'; have ST' := Lib.hid st'; clear h' st')
  go_ret
  have h5 := H'.out
  simp only [List.length_nil, Nat.zero_add, List.nil_append] at h5
  have hst := (H.out.2).trans ST'.out
  have hb := belowF hst
  have h6 := Sep.left_of_emp h5
  obtain ⟨A2, c2, e2, h7, h8, h9⟩ := h6.reads
  injection e2 with e3 e5 e4
  subst e3 e4
  exact ⟨_, _, rfl, h8, hb, fun a ha => (hst.fresh _ (h9 a ha)).elim (fun x => x.elim) id⟩

set_option maxHeartbeats 8000000 in
set_option maxRecDepth 20000 in
theorem joins_wf (A : Option Addr) (c : Nat) (xs : List Int) (B : Option Addr) (d : Nat) (ys : List Int) (cut : Int) (w : World) (h : ArgI w .u64 A c xs) (h' : ArgI w .u64 B d ys) (hcut : (Lit.int .u8 cut).wf = true) :
    Calls Try.prog 6 #[.slice A xs.length c, .slice B ys.length d, .int .u8 cut] w fun e w' => e = .returned (.bool true) ∧ Below w.heap.size w w' := by
  have HA := Lib.hid h.reads
  have HB := Lib.hid h'.reads
  have HXA := Lib.hid (show In64 xs from fun x hx => by
    have q : (decide (0 ≤ x) && decide (x ≤ 18446744073709551615)) = true := h.rng x hx
    simpa using q)
  have HXB := Lib.hid (show In64 ys from fun x hx => by
    have q : (decide (0 ≤ x) && decide (x ≤ 18446744073709551615)) = true := h'.rng x hx
    simpa using q)
  have hc' : (decide (0 ≤ cut) && decide (cut ≤ 255)) = true := hcut
  simp only [Bool.and_eq_true, decide_eq_true_eq] at hc'
  have hem : Emp w (fun _ => False) := fun _ x => x
  have HE := Lib.hid hem
  clear h h' hem hcut
  go_enter Try.func6, Try.ntmps6
  go_wp2_with fail
  refine (awake_tri _ _ HE.out).mono ?_
  rintro e w1 ⟨S1, ⟨rfl, h1⟩, st1⟩
  have ST1 := Lib.hid (show Step (fun _ => False) (fun _ => False) w w1 from ⟨st1.keep, fun _ x => x.elim⟩)
  clear h1 st1
  by_cases hla : 30 < xs.length
  · have g1 : decide ((30 : Int) < (xs.length : Int)) = true := by simp <;> omega
    go_wp2_with fail
    go_ret
    exact ⟨rfl, ST1.out.keep.below (Nat.le_refl _) (fun _ _ x => x)⟩
  have g1 : decide ((30 : Int) < (xs.length : Int)) = false := by simp <;> omega
  by_cases hlb : 30 < ys.length
  · have g2 : decide ((30 : Int) < (ys.length : Int)) = true := by simp <;> omega
    go_wp2_with fail
    go_ret
    exact ⟨rfl, ST1.out.keep.below (Nat.le_refl _) (fun _ _ x => x)⟩
  have g2 : decide ((30 : Int) < (ys.length : Int)) = false := by simp <;> omega
  have hna : xs.length ≤ 30 := by omega
  have hnb : ys.length ≤ 30 := by omega
  have n1 := new_writer Lcl.emp (w := w1) (S := fun _ => False) (fun _ x => x)
  have n2 := new_writer ((loc_wr _ _).sep Lcl.emp) n1.1
  have n3 := new_writer ((loc_wr _ _).sep ((loc_wr _ _).sep Lcl.emp)) n2.1
  have H3 := Lib.hid n3.1
  have ST3 := Lib.hid (((ST1.out.trans n1.2).trans n2.2).trans n3.2)
  clear n1 n2 n3
  have hsz : (w1.alloc (.cells #[.slice none 0 0] 28)).heap.size = w1.heap.size + 1 := by simp
  have hsz2 : ((w1.alloc (.cells #[.slice none 0 0] 28)).alloc (.cells #[.slice none 0 0] 28)).heap.size = w1.heap.size + 1 + 1 := by simp
  rw [hsz2, hsz] at H3 ST3
  go_wp2_with fail
  generalize ((w1.alloc (.cells #[.slice none 0 0] 28)).alloc (.cells #[.slice none 0 0] 28)).alloc (.cells #[.slice none 0 0] 28) = w3 at H3 ST3 ⊢
  generalize w1.heap.size + 1 + 1 = p3 at H3 ST3 ⊢
  generalize w1.heap.size + 1 = p2 at H3 ST3 ⊢
  generalize w1.heap.size = p1 at H3 ST3 ⊢
  go_loopw [40] (fun v wr => ∃ (k : Nat) (S' : Nat → Prop), k ≤ xs.length ∧ v = .int .i64 k ∧ Sep (Wr p3 (encU (xs.take k))) (Sep (Wr p2 []) (Sep (Wr p1 (encU (xs.take k))) Emp)) wr S' ∧ Step (fun _ => False) S' w wr) (fun v _ => xs.length - (intOf v).toNat)
  case atStart => exact ⟨0, _, by omega, rfl, H3.out, ST3.out⟩
  case round =>
    clear H3 ST3
    obtain ⟨k, S', hk, rfl, hw, hst⟩ := hrel
    have HW := Lib.hid hw
    have ST := Lib.hid hst
    clear hw hst
    by_cases hlt : k < xs.length
    · obtain ⟨b, o, rfl, hblt, cx⟩ := (HA.out.later (ST.out.keep.below (Nat.le_refl _) (fun _ _ x => x))).at hlt
      have hz0 : 0 ≤ xs.getD k 0 ∧ xs.getD k 0 ≤ 18446744073709551615 := HXA.out _ (by simp [List.getD_eq_getElem?_getD, List.getElem?_eq_getElem hlt])
      obtain ⟨m, hm⟩ := Int.eq_ofNat_of_zero_le hz0.1
      have hm1 := Lib.hid (show U64 m by show m < 18446744073709551616; omega)
      have HT := Lib.hid (encU_step xs k m hlt hm).1
      have h4 := encU_len (xs.take k) fun x hx => HXA.out x (List.mem_of_mem_take hx)
      have h5 : (encU (xs.take k)).length ≤ 300 := by simp at h4; omega
      rw [hm] at cx
      clear h4 hz0 hm
      generalize encU (xs.take k) = P at HW HT h5 ⊢
      have hk4 : (k : Int) < (xs.length : Int) := by omega
      go_wp2_with fail
      refine (((uint_tri p1 P m (by omega) hm1.out).frame ((loc_wr _ _).sep ((loc_wr _ _).sep Lcl.emp))) _ _ (third HW.out)).mono ?_
      rintro e w4 ⟨S4, hf, st4⟩
      obtain ⟨rfl, h4⟩ := Sep.fact hf
      have H4 := Lib.hid h4.second
      have ST4 := Lib.hid (ST.out.trans st4)
      clear hf h4 st4 HW ST
      go_wp2_with fail
      refine (((uint_tri p3 P m (by omega) hm1.out).frame ((loc_wr _ _).sep ((loc_wr _ _).sep Lcl.emp))) _ _ H4.out).mono ?_
      rintro e w5 ⟨S5, hf, st5⟩
      obtain ⟨rfl, h5'⟩ := Sep.fact hf
      have H5 := Lib.hid (h5'.imp_right fun _ hT => hT.second)
      have ST5 := Lib.hid (ST4.out.trans st5)
      clear hf h5' st5 H4 ST4
      go_wp2_with fail
      go_roundw
      case rel => exact ⟨k + 1, S5, by omega, rfl, by rw [HT.out]; exact H5.out, ST5.out⟩
      case measure => first | (simp [intOf]; done) | (simp [intOf]; omega)
    · obtain rfl : k = xs.length := by omega
      rw [List.take_length] at HW
      have hU5 : (encU xs).length ≤ 300 := by have := encU_len xs HXA.out; omega
      have hUb := Lib.hid (encU_bytes xs)
      have HSU := Lib.hid (fun k m hk hm => encU_step xs k m hk hm)
      generalize hUU : encU xs = U at *
      have HUE := Lib.hid hUU
      clear hUU
      go_wp2_with fail
      go_loopw [53] (fun v wr => ∃ (k : Nat) (S' : Nat → Prop), k ≤ ys.length ∧ v = .int .i64 k ∧ Sep (Wr p3 (U ++ encI (ys.take k))) (Sep (Wr p2 (encI (ys.take k))) (Sep (Wr p1 U) Emp)) wr S' ∧ Step (fun _ => False) S' w wr) (fun v _ => ys.length - (intOf v).toNat)
      case atStart => exact ⟨0, _, by omega, rfl, by simpa [encI] using HW.out, ST.out⟩
      case round =>
        clear HW ST
        obtain ⟨k, S', hk, rfl, hw, hst⟩ := hrel
        have HW := Lib.hid hw
        have ST := Lib.hid hst
        clear hw hst
        by_cases hlt : k < ys.length
        · obtain ⟨b, o, rfl, hblt, cx⟩ := (HB.out.later (belowF ST.out)).at hlt
          have HT := Lib.hid (encI_step ys k hlt).1
          have h4 := encI_len (ys.take k)
          have h5 : (encI (ys.take k)).length ≤ 300 := by simp at h4; omega
          clear h4
          obtain ⟨y, hy⟩ : ∃ y, ys.getD k 0 = y := ⟨_, rfl⟩
          rw [hy] at cx HT
          have hwr := wrap_range y
          clear hy
          generalize encI (ys.take k) = P at HW HT h5 ⊢
          have hk4 : (k : Int) < (ys.length : Int) := by omega
          have hlp : (U ++ P).length ≤ 600 := by simp; omega
          obtain ⟨z, hz⟩ : ∃ z, z = wrap64 y := ⟨_, rfl⟩
          rw [← hz] at hwr HT
          have hz' : wrap64 y = z := hz.symm
          clear hz
          go_wp2_with fail
          refine (((int_tri p2 P z (by omega) hwr.1 hwr.2).frame ((loc_wr _ _).sep ((loc_wr _ _).sep Lcl.emp))) _ _ HW.out.second).mono ?_
          rintro e w4 ⟨S4, hf, st4⟩
          obtain ⟨rfl, h4⟩ := Sep.fact hf
          have H4 := Lib.hid h4.second
          have ST4 := Lib.hid (ST.out.trans st4)
          clear hf h4 st4 HW ST
          go_wp2_with fail
          refine (((int_tri p3 (U ++ P) z (by omega) hwr.1 hwr.2).frame ((loc_wr _ _).sep ((loc_wr _ _).sep Lcl.emp))) _ _ H4.out).mono ?_
          rintro e w5 ⟨S5, hf, st5⟩
          obtain ⟨rfl, h5'⟩ := Sep.fact hf
          have H5 := Lib.hid h5'
          have ST5 := Lib.hid (ST4.out.trans st5)
          clear hf h5' st5 H4 ST4
          go_wp2_with fail
          go_roundw
          case rel => exact ⟨k + 1, S5, by omega, rfl, by rw [HT.out, ← List.append_assoc]; exact H5.out, ST5.out⟩
          case measure => first | (simp [intOf]; done) | (simp [intOf]; omega)
        · obtain rfl : k = ys.length := by omega
          rw [List.take_length] at HW
          have hI5 : (encI ys).length ≤ 300 := by have := encI_len ys; omega
          have hIb := Lib.hid (encI_bytes ys)
          have HSI := Lib.hid (fun k hk => encI_step ys k hk)
          generalize hII : encI ys = I at *
          have HIE := Lib.hid hII
          clear hII
          go_wp2_with fail
          refine (((bytes_tri p1 U (by omega)).frame ((loc_wr _ _).sep ((loc_wr _ _).sep Lcl.emp))) _ _ (third HW.out)).mono ?_
          rintro e w4 ⟨S4, hs4, st4⟩
          obtain ⟨v4, hf4⟩ := Sep.some hs4
          obtain ⟨rfl, h4⟩ := Sep.fact hf4
          have H4 := Lib.hid h4
          have ST4 := Lib.hid (ST.out.trans st4)
          clear hs4 hf4 h4 st4 HW ST
          go_wp2_with fail
          have h4a := (H4.out.assoc.imp_right fun _ hT => third hT).second
          refine (((bytes_tri p2 I (by omega)).frame ((Lcl.row _ _ _ _).sep ((loc_wr _ _).sep ((loc_wr _ _).sep Lcl.emp)))) _ _ h4a).mono ?_
          rintro e w5 ⟨S5, hs5, st5⟩
          obtain ⟨v5, hf5⟩ := Sep.some hs5
          obtain ⟨rfl, h5⟩ := Sep.fact hf5
          have h5a := third h5.assoc
          obtain ⟨T4, hT4, _⟩ := h5a.left
          obtain ⟨A4, c4, rfl, hc4, _⟩ := hT4.shape
          obtain ⟨T5, hT5, _⟩ := h5a.second.left
          obtain ⟨A5, c5, rfl, hc5, hr5, _⟩ := hT5.reads
          have H5 := Lib.hid h5a
          have HR5 := Lib.hid hr5
          have ST5 := Lib.hid (ST4.out.trans st5)
          clear hs5 hf5 h5 st5 h4a h5a hT4 hT5 hr5 H4 ST4
          go_wp2_with (at_builtin; refine append_row _ rfl _ _ 26 rfl 5 .u8 1 Try.underlying26 info_u8 (by decide) _ U I A5 I.length c5 rfl rfl rfl ((Lcl.row _ _ _ _).sep ((loc_wr _ _).sep ((loc_wr _ _).sep ((loc_wr _ _).sep Lcl.emp)))) H5.out HR5.out (by omega) ?_; intro A6 c6 w6 S6 h6 st6; obtain ⟨T6, hT6, _⟩ := h6.left; obtain ⟨_, _, e6, hc6, hm6⟩ := hT6.shape; injection e6 with e61 e62 e63; clear e62; subst e61 e63; have H6 := Lib.hid h6; have ST6 := Lib.hid (ST5.out.trans st6); have HC6 := Lib.hid hc6; have HM6 := Lib.hid hm6; clear h6 st6 hT6 hc6 hm6)
          have hm := HM6.out
          have hrt := read_tri A6 c6 (U ++ I) HC6.out (by unfold maxLen at hm; omega)
          rw [List.length_append] at hrt
          obtain ⟨S7, h7, hs7⟩ := H6.out.second.drop
          have h7' : Sep Emp (Sep (Row 5 .u8 (.slice A6 (U.length + I.length) c6) (U ++ I)) (Sep (Wr p2 I) (Sep (Wr p1 U) (Sep (Wr p3 (U ++ I)) Emp)))) w6 S7 := Sep.emp_left h7
          refine ((hrt.frame ((Lcl.row _ _ _ _).sep ((loc_wr _ _).sep ((loc_wr _ _).sep ((loc_wr _ _).sep Lcl.emp))))) _ _ h7').mono ?_
          rintro e w7 ⟨S8, hs8, st8⟩
          obtain ⟨r, hf8⟩ := Sep.some hs8
          obtain ⟨rfl, h8⟩ := Sep.fact hf8
          have H8 := Lib.hid h8
          have ST8 := Lib.hid ((ST6.out.less hs7).trans st8)
          clear hs8 hf8 h8 st8 h7 h7' hs7 hrt hm H6 ST6 H5 ST5 HR5
          have HXX : RowKit.Hid (IsBytes (U ++ I)) := IsBytes.app hUb.out hIb.out
          obtain ⟨X, hX⟩ : ∃ X, X = U ++ I := ⟨_, rfl⟩
          have hXl : X.length = U.length + I.length := by rw [hX, List.length_append]
          rw [← hX, ← hXl] at H8
          rw [← hX] at HXX
          have HX := Lib.hid hX
          have HXL := Lib.hid hXl
          have hX6 : X.length ≤ 600 := by omega
          clear hX hXl
          have HRD : RowKit.Hid (∀ w S, Sep (Row 5 .u8 (.slice A6 X.length c6) X) (Sep (Wr p2 I) (Sep (Wr p1 U) (Sep (Wr p3 X) Emp))) w S → Reads w .u8 A6 X) := Lib.hid (by
            rintro w S h
            obtain ⟨T, hT, _⟩ := h.left
            obtain ⟨_, _, e, _, hr, _⟩ := hT.reads
            injection e with e1 _ e2
            subst e1 e2
            exact hr)
          go_wp2_with fail
          go_loopw [74] (fun v wr => ∃ (k : Nat) (S' : Nat → Prop), k ≤ xs.length ∧ v = .int .i64 k ∧ Sep (Rd r A6 c6 X ⟨(encU (xs.take k)).length, 0⟩) (Sep (Row 5 .u8 (.slice A6 X.length c6) X) (Sep (Wr p2 I) (Sep (Wr p1 U) (Sep (Wr p3 X) Emp)))) wr S' ∧ Step (fun _ => False) S' w wr) (fun v _ => xs.length - (intOf v).toNat)
          case atStart => exact ⟨0, _, by omega, rfl, H8.out, ST8.out⟩
          case round =>
            clear H8 ST8
            obtain ⟨k, S', hk, rfl, hw, hst⟩ := hrel
            have HW := Lib.hid hw
            have ST := Lib.hid hst
            clear hw hst
            by_cases hlt : k < xs.length
            · obtain ⟨b, o, rfl, hblt, cx⟩ := (HA.out.later (belowF ST.out)).at hlt
              have hz0 : 0 ≤ xs.getD k 0 ∧ xs.getD k 0 ≤ 18446744073709551615 := HXA.out _ (by simp [List.getD_eq_getElem?_getD, List.getElem?_eq_getElem hlt])
              obtain ⟨m, hm⟩ := Int.eq_ofNat_of_zero_le hz0.1
              have hm1 : U64 m := by show m < 18446744073709551616; omega
              obtain ⟨q1, q2⟩ := HSU.out k m hlt hm
              have hd : X.drop (encU (xs.take k)).length = enc m ++ (encU (xs.drop (k + 1)) ++ I) := by
                rw [HX.out, q2, List.append_assoc, List.drop_left, List.append_assoc]
              have hrn := rnum_enc hd hm1 (Nat.le_refl m)
              have hq1 : (encU (xs.take (k + 1))).length = (encU (xs.take k)).length + (enc m).length := by rw [q1, List.length_append]
              have HQ1 := Lib.hid hq1
              have HU := (uint_fr r A6 c6 X ⟨(encU (xs.take k)).length, 0⟩ m _ ((Lcl.row _ _ _ _).sep ((loc_wr _ _).sep ((loc_wr _ _).sep ((loc_wr _ _).sep Lcl.emp)))) HRD.out HXX.out)
              rw [hrn] at HU
              have HU := Lib.hid HU
              rw [hm] at cx
              clear hz0 hm hm1 q1 q2 hd hrn hq1
              have hk4 : (k : Int) < (xs.length : Int) := by omega
              go_wp2_with fail
              refine (HU.out _ _ HW.out).mono ?_
              rintro e w9 ⟨S9, ⟨rfl, h9⟩, st9⟩
              have H9 := Lib.hid h9
              have ST9 := Lib.hid (ST.out.trans st9)
              clear h9 st9
              go_wp2_with fail
              go_roundw
              case rel => exact ⟨k + 1, S9, by omega, rfl, by rw [HQ1.out]; exact H9.out, ST9.out⟩
              case measure => first | (simp [intOf]; done) | (simp [intOf]; omega)
            · obtain rfl : k = xs.length := by omega
              rw [List.take_length, HUE.out] at HW
              go_wp2_with fail
              go_loopw [86] (fun v wr => ∃ (k : Nat) (S' : Nat → Prop), k ≤ ys.length ∧ v = .int .i64 k ∧ Sep (Rd r A6 c6 X ⟨U.length + (encI (ys.take k)).length, 0⟩) (Sep (Row 5 .u8 (.slice A6 X.length c6) X) (Sep (Wr p2 I) (Sep (Wr p1 U) (Sep (Wr p3 X) Emp)))) wr S' ∧ Step (fun _ => False) S' w wr) (fun v _ => ys.length - (intOf v).toNat)
              case atStart => exact ⟨0, _, by omega, rfl, HW.out, ST.out⟩
              case round =>
                clear HW ST
                obtain ⟨k, S', hk, rfl, hw, hst⟩ := hrel
                have HW := Lib.hid hw
                have ST := Lib.hid hst
                clear hw hst
                by_cases hlt : k < ys.length
                · obtain ⟨b, o, rfl, hblt, cx⟩ := (HB.out.later (belowF ST.out)).at hlt
                  obtain ⟨q1, q2⟩ := HSI.out k hlt
                  obtain ⟨y, hy⟩ : ∃ y, ys.getD k 0 = y := ⟨_, rfl⟩
                  rw [hy] at cx q1 q2
                  obtain ⟨z, hz⟩ : ∃ z, z = wrap64 y := ⟨_, rfl⟩
                  have hzu := zigw_u64 y
                  rw [← hz] at q1 q2 hzu
                  have hd : X.drop (U.length + (encI (ys.take k)).length) = enc (Bit.zig z) ++ encI (ys.drop (k + 1)) := by
                    rw [HX.out, q2, ← List.append_assoc, ← List.length_append, List.drop_left]
                  have hrn := rnum_enc hd hzu (show Bit.zig z ≤ 18446744073709551615 by have : Bit.zig z < 18446744073709551616 := hzu; omega)
                  have hq1 : U.length + (encI (ys.take (k + 1))).length = U.length + (encI (ys.take k)).length + (enc (Bit.zig z)).length := by rw [q1, List.length_append]; omega
                  have HQ1 := Lib.hid hq1
                  have HU := (int_fr r A6 c6 X ⟨U.length + (encI (ys.take k)).length, 0⟩ _ ((Lcl.row _ _ _ _).sep ((loc_wr _ _).sep ((loc_wr _ _).sep ((loc_wr _ _).sep Lcl.emp)))) HRD.out HXX.out)
                  rw [hrn, Bit.zag_zig] at HU
                  have HU := Lib.hid HU
                  have hz' : wrap64 y = z := hz.symm
                  clear hz hy hzu q1 q2 hd hrn hq1
                  have hk4 : (k : Int) < (ys.length : Int) := by omega
                  go_wp2_with fail
                  refine (HU.out _ _ HW.out).mono ?_
                  rintro e w9 ⟨S9, ⟨rfl, h9⟩, st9⟩
                  have H9 := Lib.hid h9
                  have ST9 := Lib.hid (ST.out.trans st9)
                  clear h9 st9
                  go_wp2_with fail
                  go_roundw
                  case rel => exact ⟨k + 1, S9, by omega, rfl, by rw [HQ1.out]; exact H9.out, ST9.out⟩
                  case measure => first | (simp [intOf]; done) | (simp [intOf]; omega)
                · obtain rfl : k = ys.length := by omega
                  rw [List.take_length, HIE.out, ← HXL.out] at HW
                  go_wp2_with fail
                  have hfr := third (HW.out.imp_right fun _ hT => hT.imp_right fun _ hT => third hT)
                  refine (((bytes_tri p3 X (by omega)).frame ((loc_rd _ _ _ _ _).sep ((Lcl.row _ _ _ _).sep ((loc_wr _ _).sep ((loc_wr _ _).sep Lcl.emp))))) _ _ hfr).mono ?_
                  rintro e w10 ⟨S10, hs10, st10⟩
                  obtain ⟨v10, hf10⟩ := Sep.some hs10
                  obtain ⟨rfl, h10⟩ := Sep.fact hf10
                  obtain ⟨T10, hT10, _⟩ := h10.assoc.left
                  obtain ⟨A7, c7, rfl, hc7, hm7⟩ := hT10.shape
                  have H10 := Lib.hid (Sep.emp_left h10)
                  have ST10 := Lib.hid (ST.out.trans st10)
                  have HC7 := Lib.hid (And.intro hc7 hm7)
                  clear hfr hs10 hf10 h10 st10 hT10 HW ST hm7
                  go_wp2_with fail
                  have hm := HC7.out.2
                  refine (((read_tri A7 c7 X HC7.out.1 (by unfold maxLen at hm; omega)).frame (((Lcl.row _ _ _ _).sep (loc_wr _ _)).sep ((loc_rd _ _ _ _ _).sep ((Lcl.row _ _ _ _).sep ((loc_wr _ _).sep ((loc_wr _ _).sep Lcl.emp)))))) _ _ H10.out).mono ?_
                  rintro e ws ⟨S11, hs11, st11⟩
                  obtain ⟨s, hf11⟩ := Sep.some hs11
                  obtain ⟨rfl, h11⟩ := Sep.fact hf11
                  obtain ⟨T, U1, hS, hrest, hd, hiff⟩ := h11
                  obtain ⟨V1, hV1, hsV1⟩ := hrest.left
                  obtain ⟨V2, hV2, hsV2⟩ := hV1.left
                  obtain ⟨_, _, e7, _, hr7, hb7⟩ := hV2.reads
                  injection e7 with e71 e72 e73
                  clear e72
                  subst e71 e73
                  obtain ⟨V3, hV3, _⟩ := hrest.comm.left
                  obtain ⟨V4, hV4, _⟩ := hV3.left
                  obtain ⟨V5, hV5, _⟩ := hV3.comm.left
                  obtain ⟨V6, hV6, _⟩ := hV5.comm.left
                  obtain ⟨V7, hV7, _⟩ := hV6.left
                  obtain ⟨V8, hV8, _⟩ := hV6.comm.left
                  obtain ⟨V9, hV9, _⟩ := hV8.left
                  have HRr := Lib.hid hV4
                  have TW2 := Lib.hid hV7
                  have TW1 := Lib.hid hV9
                  have HR7 := Lib.hid hr7
                  have HS := Lib.hid hS
                  have HNB := Lib.hid (show ∀ a, A7 = some a → ¬ T a.block from fun a ha hT => hd _ hT (hsV1 _ (hsV2 _ (hb7 a ha))))
                  have ST11 := Lib.hid ((ST10.out.trans st11).less (fun k (h : T k) => (hiff k).2 (.inl h)))
                  have HTL := Lib.hid (show ∀ k, T k → k < ws.heap.size from fun k hk => (loc_rd _ _ _ _ _).lt hS hk)
                  clear hs11 hf11 hS hrest hd hiff hV1 hV2 hr7 hb7 hV3 hV4 hV5 hV6 hV7 hV8 hV9 hsV1 hsV2 st11 H10 ST10 hm
                  obtain ⟨kk, hkk⟩ : ∃ kk : Nat, cut % ((X.length : Int) + 1) = kk := ⟨(cut % ((X.length : Int) + 1)).toNat, by have := Int.emod_nonneg cut (b := (X.length : Int) + 1) (by omega); omega⟩
                  have hkl : kk ≤ X.length := by have := Int.emod_lt_of_pos cut (b := (X.length : Int) + 1) (by omega); omega
                  have HRE : RowKit.Hid (rend X ⟨X.length, 0⟩ = 0) := Lib.hid (by unfold rend; simp)
                  have HRB : RowKit.Hid (rbytes X ⟨0, 0⟩ kk = (X.take kk, ⟨kk, 0⟩)) := Lib.hid (by
                    unfold rbytes rleft
                    rw [if_neg (by simp; omega)]
                    simp)
                  have HLF : RowKit.Hid (rleft X ⟨kk, 0⟩ = X.length - kk) := Lib.hid (by unfold rleft; simp)
                  have HLS : RowKit.Hid (((X.length - kk : Nat) : Int) = (X.length : Int) - (kk : Int)) := Lib.hid (by omega)
                  have HLK : RowKit.Hid ((X.take kk).length = kk) := Lib.hid (by rw [List.length_take]; omega)
                  have HSA : RowKit.Hid (strOfNums U ++ strOfNums I = strOfNums X) := Lib.hid (by rw [str_app, HX.out])
                  obtain ⟨GG, hGG⟩ : ∃ GG : World → Prop, GG = fun w => ∃ S2, Rd s A7 c7 X ⟨kk, 0⟩ w S2 ∧ ∀ k, S2 k → T k ∨ ws.heap.size ≤ k := ⟨_, rfl⟩
                  have HGE : RowKit.Hid (∀ a b, GG a → Ext a b → GG b) := Lib.hid (by rw [hGG]; rintro a b ⟨S2, h, hf⟩ e; exact ⟨S2, Ext.keep (loc_rd _ _ _ _ _) e h, hf⟩)
                  have HGM : RowKit.Hid (∀ w S2, Rd s A7 c7 X ⟨kk, 0⟩ w S2 → (∀ k, S2 k → T k ∨ ws.heap.size ≤ k) → GG w) := Lib.hid (by rw [hGG]; exact fun w S2 h hf => ⟨S2, h, hf⟩)
                  have HGO : RowKit.Hid (∀ w, GG w → ∃ S2, Rd s A7 c7 X ⟨kk, 0⟩ w S2 ∧ ∀ k, S2 k → T k ∨ ws.heap.size ≤ k) := Lib.hid (by rw [hGG]; exact fun w h => h)
                  clear hGG
                  go_wp2_with fail
                  refine wp_region_relyD (by kernel_rfl) Ext (RK T GG) 18 262143 (RK.ext HGE.out) Ext.refl Ext.trans (RK.refl _ _) (RK.trans _ _) [[(14, none)], [(106, some 0)], [(107, some 1)], [(108, some 2)], [(19, none)], [(110, some 4)], [(7, none)], [(112, some 6)], [(113, some 7)], [(8, none)], [(115, some 9)], [(116, some 10)], [(114, some 8), (117, some 11)], [(111, some 5), (118, some 12)], [(109, some 3), (119, some 13)], [(120, some 14)], [(20, none)], [(21, none)], [(122, some 16), (123, some 17)], [(124, some 18)], [(19, none)], [(21, none)], [(126, some 20), (127, some 21)], [(128, some 22)], [(125, some 19), (129, some 23)], [(121, some 15), (130, some 24)], [(131, some 25)], [(20, none)], [(133, some 27), (124, some 18)], [(19, none)], [(135, some 29)], [(21, none)], [(136, some 30), (137, some 31)], [(134, some 28), (138, some 32)], [(132, some 26), (139, some 33)], [(140, some 34)]] [some 106, some 107, some 108, some 109, some 110, some 111, some 112, some 113, some 114, some 115, some 116, some 117, some 118, some 119, some 120, some 121, some 122, some 123, some 124, some 125, some 126, some 127, some 128, some 129, some 130, some 131, some 132, some 133, some 134, some 135, some 136, some 137, some 138, some 139, some 140, some 6] (by kernel_rfl) (by kernel_rfl) (by kernel_rfl) ?_
                  -- 0: slot 106 := Op.move t14
                  apply relyD_const_e (by decide) (by decide); case h => (intro wr hR a' h14 K hK; go_wp2_with fail; exact Ext.refl _)
                  -- 1: slot 107 := Op.call { value (Operand.func 33), args := #[t106], argTypes := #[48] }
                  apply relyD_const_e (by decide) (by decide)
                  case h =>
                    intro wr hR a' h106 K hK
                    go_wp2_with fail
                    refine (end_is r A6 c6 X ⟨X.length, 0⟩ wr _ (Ext.keep (loc_rd _ _ _ _ _) hR.undrew HRr.out)).mono ?_
                    rintro e w2 ⟨rfl, nq, rfl⟩
                    rw [HRE.out]
                    go_wp2_with fail
                    exact ext_drewN _ _
                  -- 2: slot 108 := Op.binOp BinOp.eql 44 t107 (const (0:i64)) 44
                  apply relyD_const_e (by decide) (by decide); case h => (intro wr hR a' h107 K hK; go_wp2_with fail; exact Ext.refl _)
                  -- 3: slot 109 := Op.move t108
                  apply relyD_const_e (by decide) (by decide); case h => (intro wr hR a' h108 K hK; go_wp2_with fail; exact Ext.refl _)
                  -- 4: slot 110 := Op.move t19 GUARD 3 true
                  apply relyD_const_in_e (by decide) (by decide) _ rfl; case h => (intro wr hR a' h19 K hK; go_wp2_with fail; exact Ext.refl _)
                  -- 5: slot 111 := Op.convert 26 9 t110 GUARD 3 true
                  apply relyD_const_in_e (by decide) (by decide) _ rfl; case h => (intro wr hR a' h110 K hK; have hcv := (hR.undrew.reads HR7.out).string (P := Try.prog) Try.underlying26 Try.underlying5 Try.underlying9 c7; go_wp2_with fail; exact Ext.refl _)
                  -- 6: slot 112 := Op.move t7 GUARD 3 true
                  apply relyD_const_in_e (by decide) (by decide) _ rfl; case h => (intro wr hR a' h7 K hK; go_wp2_with fail; exact Ext.refl _)
                  -- 7: slot 113 := Op.call { value (Operand.func 30), args := #[t112], argTypes := #[25] } GUARD 3 true
                  refine relyD_rel_in_e (by decide) (by decide) (fun v wr => ∃ A c, v = .slice A U.length c ∧ Reads wr .u8 A U ∧ ∀ a, A = some a → ¬ T a.block) (fun v w w' ⟨A, c, e, k, n⟩ x => ⟨A, c, e, k.keep x.1 n, n⟩) rfl ?h7 ?_
                  case h7 =>
                    intro wr hR a' h112 K hK
                    have HK := Lib.hid hK
                    clear hK
                    go_wp2_with fail
                    refine (wbytes_c p1 U (by omega) wr _ (Ext.keep (loc_wr _ _) hR.undrew TW1.out)).mono ?_
                    rintro e w2 ⟨A, c, rfl, hr, hb, hf9⟩
                    have HF9 := Lib.hid hf9
                    have HSZ9 := Lib.hid hR.undrew.size
                    clear hf9
                    go_wp2_with fail
                    exact HK.out _ _ hb ⟨A, c, rfl, hr, fun a ha hT => by have h1 := HF9.out a ha; have h2 := HTL.out _ hT; have h3 := HSZ9.out; omega⟩
                  -- 8: slot 114 := Op.convert 26 9 t113 GUARD 3 true
                  apply relyD_const_in_e (by decide) (by decide) _ rfl
                  case h =>
                    rintro wr hR a' v h113 ⟨A, c, rfl, hr, _⟩ K hK
                    have hcv := hr.string (P := Try.prog) Try.underlying26 Try.underlying5 Try.underlying9 c
                    go_wp2_with fail
                    exact Ext.refl _
                  -- 9: slot 115 := Op.move t8 GUARD 3 true
                  apply relyD_const_in_e (by decide) (by decide) _ rfl; case h => (intro wr hR a' h8 K hK; go_wp2_with fail; exact Ext.refl _)
                  -- 10: slot 116 := Op.call { value (Operand.func 30), args := #[t115], argTypes := #[25] } GUARD 3 true
                  refine relyD_rel_in_e (by decide) (by decide) (fun v wr => ∃ A c, v = .slice A I.length c ∧ Reads wr .u8 A I ∧ ∀ a, A = some a → ¬ T a.block) (fun v w w' ⟨A, c, e, k, n⟩ x => ⟨A, c, e, k.keep x.1 n, n⟩) rfl ?h10 ?_
                  case h10 =>
                    intro wr hR a' h115 K hK
                    have HK := Lib.hid hK
                    clear hK
                    go_wp2_with fail
                    refine (wbytes_c p2 I (by omega) wr _ (Ext.keep (loc_wr _ _) hR.undrew TW2.out)).mono ?_
                    rintro e w2 ⟨A, c, rfl, hr, hb, hf9⟩
                    have HF9 := Lib.hid hf9
                    have HSZ9 := Lib.hid hR.undrew.size
                    clear hf9
                    go_wp2_with fail
                    exact HK.out _ _ hb ⟨A, c, rfl, hr, fun a ha hT => by have h1 := HF9.out a ha; have h2 := HTL.out _ hT; have h3 := HSZ9.out; omega⟩
                  -- 11: slot 117 := Op.convert 26 9 t116 GUARD 3 true
                  apply relyD_const_in_e (by decide) (by decide) _ rfl
                  case h =>
                    rintro wr hR a' v h116 ⟨A, c, rfl, hr, _⟩ K hK
                    have hcv := hr.string (P := Try.prog) Try.underlying26 Try.underlying5 Try.underlying9 c
                    go_wp2_with fail
                    exact Ext.refl _
                  -- 12: slot 118 := Op.binOp BinOp.add 9 t114 t117 9 GUARD 3 true
                  apply relyD_const_in_e (by decide) (by decide) _ rfl; case h => (intro wr hR a' h114 h117 K hK; have hz1 := size_str U; have hz2 := size_str I; have hzz : ¬ ((9223372036854775807 : Int) < (U.length : Int) + (I.length : Int)) := (by omega); have hsa := HSA.out; go_wp2_with fail; exact Ext.refl _)
                  -- 13: slot 119 := Op.binOp BinOp.eql 9 t111 t118 9 GUARD 3 true
                  apply relyD_const_in_e (by decide) (by decide) _ rfl; case h => (intro wr hR a' h111 h118 K hK; go_wp2_with fail; exact Ext.refl _)
                  -- 14: slot 120 := Op.pick t109 t119 (const (Value.bool false))
                  apply relyD_const_e (by decide) (by decide); case h => (intro wr hR a' h109 h119 K hK; go_wp2_with fail; exact Ext.refl _)
                  -- 15: slot 121 := Op.move t120
                  apply relyD_const_e (by decide) (by decide); case h => (intro wr hR a' h120 K hK; go_wp2_with fail; exact Ext.refl _)
                  -- 16: slot 122 := Op.move t20 GUARD 15 true
                  apply relyD_const_in_e (by decide) (by decide) _ rfl; case h => (intro wr hR a' h20 K hK; go_wp2_with fail; exact Ext.refl _)
                  -- 17: slot 123 := Op.move t21 GUARD 15 true
                  apply relyD_const_in_e (by decide) (by decide) _ rfl; case h => (intro wr hR a' h21 K hK; go_wp2_with fail; exact Ext.refl _)
                  -- 18: slot 124 := Op.call { value (Operand.func 34), args := #[t122, t123], argTypes := #[48, 3] } GUARD 15 true
                  refine relyD_the_in rfl (fun v w => ∃ A', v = .slice A' kk kk ∧ Reads w .u8 A' (X.take kk) ∧ (∀ a, A' = some a → ∃ b, A7 = some b ∧ a.block = b.block) ∧ GG w) (fun v w w' ⟨A', e, k, n, g⟩ x => ⟨A', e, k.keep x.1 (fun a ha => by obtain ⟨b, hb, he⟩ := n a ha; rw [he]; exact HNB.out b hb), n, x.2 g⟩) rfl ?h18 ?_
                  case h18 =>
                    intro wr hR a' h122 h123 K hK
                    have HK := Lib.hid hK
                    have hE := hR.undrew
                    have HX1 := Lib.hid hE
                    clear hK hE
                    go_wp2_with fail
                    refine (bytes_calls s A7 c7 X ⟨0, 0⟩ kk wr T (Ext.keep (loc_rd _ _ _ _ _) HX1.out HS.out) (HX1.out.reads HR7.out) (by omega)).mono ?_
                    rintro e w2 ⟨S2, A', ⟨rfl, h2⟩, st2, hrd2, hab⟩
                    simp only [HRB.out, HLK.out] at h2 hrd2 ⊢
                    have g2 := HGM.out w2 S2 h2 (fun q hq => (st2.fresh q hq).imp id (fun x => Nat.le_trans HX1.out.size x))
                    have hk2 : RK T GG wr w2 := ⟨st2.keep, fun _ => g2⟩
                    have hr2 := hrd2 w2 ((HX1.out.reads HR7.out).keep st2.keep HNB.out)
                    have HK2 := Lib.hid hk2
                    have HG2 := Lib.hid (And.intro hr2 (And.intro hab g2))
                    clear h2 st2 g2 hk2 hr2 hrd2 hab
                    go_wp2_with fail
                    exact HK.out _ _ HK2.out ⟨A', rfl, HG2.out⟩
                  -- 19: slot 125 := Op.convert 26 9 t124 GUARD 15 true
                  apply relyD_const_in (by decide) (by decide) _ rfl
                  case h =>
                    rintro wr hR a' v h124 ⟨A', rfl, hr, _, _⟩ K hK
                    have hcv := hr.string (P := Try.prog) Try.underlying26 Try.underlying5 Try.underlying9 kk
                    rw [HLK.out] at hcv
                    go_wp2_with fail
                    exact Ext.refl _
                  -- 20: slot 126 := Op.move t19 GUARD 15 true
                  apply relyD_const_in (by decide) (by decide) _ rfl; case h => (intro wr hR a' h19 K hK; go_wp2_with fail; exact Ext.refl _)
                  -- 21: slot 127 := Op.move t21 GUARD 15 true
                  apply relyD_const_in (by decide) (by decide) _ rfl; case h => (intro wr hR a' h21 K hK; go_wp2_with fail; exact Ext.refl _)
                  -- 22: slot 128 := Op.slice 26 t126 none (some t127) none GUARD 15 true
                  apply relyD_const_in (by decide) (by decide) _ rfl; case h => (intro wr hR a' h126 h127 K hK; go_wp2_with fail; exact Ext.refl _)
                  -- 23: slot 129 := Op.convert 26 9 t128 GUARD 15 true
                  apply relyD_const_in (by decide) (by decide) _ rfl; case h => (intro wr hR a' h128 K hK; have hcv := ((HR7.out.keep (keep_undrew hR.1) HNB.out).take kk).string (P := Try.prog) Try.underlying26 Try.underlying5 Try.underlying9 c7; rw [HLK.out] at hcv; go_wp2_with fail; exact Ext.refl _)
                  -- 24: slot 130 := Op.binOp BinOp.eql 9 t125 t129 9 GUARD 15 true
                  apply relyD_const_in (by decide) (by decide) _ rfl; case h => (intro wr hR a' h125 h129 K hK; go_wp2_with fail; exact Ext.refl _)
                  -- 25: slot 131 := Op.pick t121 t130 (const (Value.bool false))
                  apply relyD_const (by decide) (by decide); case h => (intro wr hR a' h121 h130 K hK; go_wp2_with fail; exact Ext.refl _)
                  -- 26: slot 132 := Op.move t131
                  apply relyD_const (by decide) (by decide); case h => (intro wr hR a' h131 K hK; go_wp2_with fail; exact Ext.refl _)
                  -- 27: slot 133 := Op.move t20 GUARD 26 true
                  apply relyD_const_in (by decide) (by decide) _ rfl; case h => (intro wr hR a' h20 K hK; go_wp2_with fail; exact Ext.refl _)
                  -- 28: slot 134 := Op.call { value (Operand.func 35), args := #[t133], argTypes := #[48] } GUARD 26 true
                  apply relyD_const_in (by decide) (by decide) _ rfl
                  case h =>
                    rintro wr hR a' h133 v h124 ⟨A', rfl, _, _, hgg⟩ K hK
                    obtain ⟨S2, h2, _⟩ := HGO.out _ hgg
                    have HL2 := Lib.hid h2
                    clear hgg h2
                    go_wp2_with fail
                    refine (left_is s A7 c7 X ⟨kk, 0⟩ wr S2 HL2.out).mono ?_
                    rintro e w2 ⟨rfl, nq, rfl⟩
                    rw [HLF.out, HLS.out]
                    go_wp2_with fail
                    exact ext_drewN _ _
                  -- 29: slot 135 := Op.move t19 GUARD 26 true
                  apply relyD_const_in (by decide) (by decide) _ rfl; case h => (intro wr hR a' h19 K hK; go_wp2_with fail; exact Ext.refl _)
                  -- 30: slot 136 := Op.call { builtin len, args := #[t135], argTypes := #[26] } GUARD 26 true
                  apply relyD_const_in (by decide) (by decide) _ rfl; case h => (intro wr hR a' h135 K hK; go_wp2_with fail; exact Ext.refl _)
                  -- 31: slot 137 := Op.move t21 GUARD 26 true
                  apply relyD_const_in (by decide) (by decide) _ rfl; case h => (intro wr hR a' h21 K hK; go_wp2_with fail; exact Ext.refl _)
                  -- 32: slot 138 := Op.binOp BinOp.sub 3 t136 t137 3 GUARD 26 true
                  apply relyD_const_in (by decide) (by decide) _ rfl; case h => (intro wr hR a' h136 h137 K hK; go_wp2_with fail; exact Ext.refl _)
                  -- 33: slot 139 := Op.binOp BinOp.eql 3 t134 t138 3 GUARD 26 true
                  apply relyD_const_in (by decide) (by decide) _ rfl; case h => (intro wr hR a' h134 h138 K hK; go_wp2_with fail; exact Ext.refl _)
                  -- 34: slot 140 := Op.pick t132 t139 (const (Value.bool false))
                  apply relyD_const (by decide) (by decide); case h => (intro wr hR a' h132 h139 K hK; go_wp2_with fail; exact Ext.refl _)
                  -- 35: slot 6 := Op.assign t140
                  apply relyD_const (by decide) (by decide); case h => (intro wr hR a' h140 K hK; go_wp2_with fail; exact Ext.refl _)
                  refine relyD_end ?_
                  intro wr hR
                  simp only [ends, Act.put, List.setIfInBounds_toArray, List.set_cons_zero, List.set_cons_succ]
                  intro u1 hu1 u2 hu2 u3 hu3
                  have HF := Lib.hid (belowF (ST11.out.trans (S'' := T) ⟨keep_undrew hR.1, fun x hx => .inl hx⟩))
                  clear hR hu1 hu2 hu3
                  go_wp2_with fail
                  go_ret
                  exact ⟨rfl, HF.out⟩
end Go.Proofs.Ytpgnlpcnancplaa.Wire
