/- The law WireJoins, at every input. -/
import Derived.Test.YtfpeeilenocaoaaWireGrows
import Derived.Test.YtfpeeilenocaoaaRead
import Derived.Test.YtfpeeilenocaoaaRelyD
namespace Go.Proofs.Ytfpeeilenocaoaa.Wire
open Go.RowKit Go.Proofs.Ytfpeeilenocaoaa.Own Go.Proofs.Ytfpeeilenocaoaa.Rely
attribute [local go_sem] max_ints min_ints

/-- Numbers as bytes; numbers with a sign, by their bits, as bytes. -/
def encU : List Int → List Int
  | [] => []
  | x :: l => enc x.toNat ++ encU l
def encI : List Int → List Int
  | [] => []
  | x :: l => enc (Bit.zig (wrap64 x)) ++ encI l
theorem encU_app : ∀ a b : List Int, encU (a ++ b) = encU a ++ encU b
  | [], b => rfl
  | x :: a, b => by simp only [List.cons_append, encU, encU_app a b, List.append_assoc]
theorem encI_app : ∀ a b : List Int, encI (a ++ b) = encI a ++ encI b
  | [], b => rfl
  | x :: a, b => by simp only [List.cons_append, encI, encI_app a b, List.append_assoc]
def In64 (l : List Int) : Prop := ∀ x ∈ l, 0 ≤ x ∧ x ≤ 18446744073709551615
theorem u64_nat {x : Int} (h : 0 ≤ x ∧ x ≤ 18446744073709551615) : U64 x.toNat := by show x.toNat < 18446744073709551616; omega
theorem wrap_range (x : Int) : -9223372036854775808 ≤ wrap64 x ∧ wrap64 x ≤ 9223372036854775807 := by unfold wrap64; omega
theorem zigw_u64 (x : Int) : U64 (Bit.zig (wrap64 x)) := Bit.zig_lt (wrap_range x).1 (wrap_range x).2
theorem encU_len : ∀ l : List Int, In64 l → (encU l).length ≤ 10 * l.length
  | [], _ => by simp [encU]
  | x :: l, h => by
    have h1 := enc_ten (u64_nat (h x List.mem_cons_self))
    have h2 := encU_len l fun y hy => h y (List.mem_cons_of_mem _ hy)
    simp only [encU, List.length_append, List.length_cons]; omega
theorem encI_len : ∀ l : List Int, (encI l).length ≤ 10 * l.length
  | [] => by simp [encI]
  | x :: l => by
    have h1 := enc_ten (zigw_u64 x)
    have h2 := encI_len l
    simp only [encI, List.length_append, List.length_cons]; omega
theorem encU_bytes : ∀ l, IsBytes (encU l)
  | [] => fun x hx => by simp [encU] at hx
  | x :: l => IsBytes.app (enc_bytes _) (encU_bytes l)
theorem encI_bytes : ∀ l, IsBytes (encI l)
  | [] => fun x hx => by simp [encI] at hx
  | x :: l => IsBytes.app (enc_bytes _) (encI_bytes l)
theorem take_snoc (xs : List Int) (k : Nat) (hk : k < xs.length) : xs.take (k + 1) = xs.take k ++ [xs.getD k 0] ∧ xs = xs.take k ++ (xs.getD k 0 :: xs.drop (k + 1)) := by
  have hx : xs.getD k 0 = xs[k] := by rw [List.getD_eq_getElem?_getD, List.getElem?_eq_getElem hk]; rfl
  rw [hx]
  exact ⟨by rw [List.take_add_one, List.getElem?_eq_getElem hk]; rfl, by rw [← List.drop_eq_getElem_cons hk, List.take_append_drop]⟩
theorem encU_step (xs : List Int) (k m : Nat) (hk : k < xs.length) (hm : xs.getD k 0 = (m : Int)) : encU (xs.take (k + 1)) = encU (xs.take k) ++ enc m ∧ encU xs = encU (xs.take k) ++ (enc m ++ encU (xs.drop (k + 1))) := by
  obtain ⟨h1, h2⟩ := take_snoc xs k hk
  constructor
  · rw [h1, encU_app, hm]; simp [encU]
  · conv => lhs; rw [h2]
    rw [encU_app, hm]; simp [encU]
theorem encI_step (xs : List Int) (k : Nat) (hk : k < xs.length) : encI (xs.take (k + 1)) = encI (xs.take k) ++ enc (Bit.zig (wrap64 (xs.getD k 0))) ∧ encI xs = encI (xs.take k) ++ (enc (Bit.zig (wrap64 (xs.getD k 0))) ++ encI (xs.drop (k + 1))) := by
  obtain ⟨h1, h2⟩ := take_snoc xs k hk
  constructor
  · rw [h1, encI_app]; simp [encI]
  · conv => lhs; rw [h2]
    rw [encI_app]; simp [encI]

theorem third {A B C D : Asn} {w : World} {S : Nat → Prop} (h : Sep A (Sep B (Sep C D)) w S) : Sep C (Sep A (Sep B D)) w S := (h.imp_right fun _ hT => hT.second).second
theorem third' {A B C D : Asn} {w : World} {S : Nat → Prop} (h : Sep C (Sep A (Sep B D)) w S) : Sep A (Sep B (Sep C D)) w S := h.second.imp_right fun _ hT => hT.second
theorem belowF {S1 : Nat → Prop} {w w' : World} (h : Step (fun _ => False) S1 w w') : Below w.heap.size w w' := h.keep.below (Nat.le_refl _) (fun _ _ x => x)

theorem uint_fr (p : Nat) (A : Option Addr) (c : Nat) (X : List Int) (s : RS) (most : Nat) (B : Asn) (hB : Lcl B) (hrd : ∀ w S, B w S → Reads w .u8 A X) (hx : IsBytes X) :
    Tri Try.prog 43 #[.pointer (some ⟨p, 0, none⟩), .int .u64 most] (Sep (Rd p A c X s) B) (fun e => Fact (e = .returned (.int .u64 (rnum X most s).1)) (Sep (Rd p A c X (rnum X most s).2) B)) := by
  rintro w S ⟨S1, S2, h1, h2, d, q⟩
  refine (uint_calls p A c X s most w S1 hx h1 (fun w' k => hrd _ _ (hB.keep h2 fun x hx => k.block x (hB.lt h2 hx) (fun y => d x y hx)))).mono ?_
  rintro e w' ⟨S', ⟨he, h'⟩, st⟩
  have hs := Sep.step hB h2 d h' st
  have hS : S = fun k => S1 k ∨ S2 k := funext fun k => propext (q k)
  rw [hS]
  exact ⟨_, ⟨he, hs.1⟩, hs.2⟩
theorem str_app (a b : List Int) : strOfNums a ++ strOfNums b = strOfNums (a ++ b) := by
  apply ByteArray.ext
  apply Array.ext'
  rw [ByteArray.data_append, Array.toList_append]
  show (strOfNums a).data.toList ++ (strOfNums b).data.toList = (strOfNums (a ++ b)).data.toList
  simp [strOfNums]
theorem size_str (xs : List Int) : (strOfNums xs).size = xs.length := by
  show (strOfNums xs).data.size = _
  simp [strOfNums]
theorem ext_drewN (w : World) (n : Nat) : Ext w (w.drewN n) := ⟨rfl, rfl, rfl, Nat.le_refl _, fun _ _ => rfl⟩
/-- Blocks of Z may be written, and what G tells of them stays. -/
def RK (Z : Nat → Prop) (G : World → Prop) (w w' : World) : Prop := Keep Z w w' ∧ (G w → G w')
theorem RK.refl (Z : Nat → Prop) (G : World → Prop) (w : World) : RK Z G w w := ⟨Keep.refl _ _, fun h => h⟩
theorem RK.trans (Z : Nat → Prop) (G : World → Prop) (a b c : World) (h : RK Z G a b) (k : RK Z G b c) : RK Z G a c := ⟨h.1.trans k.1 (fun _ _ q => q) (fun _ _ q => q), fun g => k.2 (h.2 g)⟩
theorem RK.ext {Z : Nat → Prop} {G : World → Prop} (hG : ∀ a b, G a → Ext a b → G b) (w w' : World) (h : Ext w w') : RK Z G w w' := ⟨Keep.of_below h, fun g => hG _ _ g h⟩
theorem keep_undrew {Z : Nat → Prop} {a b : World} (h : Keep Z a.drew b) : Keep Z a b := ⟨h.os, h.tape, h.output, h.size, h.block⟩

set_option maxHeartbeats 1000000 in
theorem wbytes_c (p : Nat) (L : List Int) (hL : L.length ≤ 1000000000) (w : World) (S : Nat → Prop) (h : Wr p L w S) : Calls Try.prog 33 #[.pointer (some ⟨p, 0, none⟩)] w
    fun e w' => ∃ A c, e = .returned (.slice A L.length c) ∧ Reads w' .u8 A L ∧ Ext w w' ∧ ∀ a, A = some a → w.heap.size ≤ a.block := by
  obtain ⟨A, c, c0, hr, _⟩ := wr_c0 h
  have hE := sepEmpty Lcl.emp (w := w) (S := fun _ => False) (fun _ x => x) 5 .u8
  have c4 : (w.alloc (.cells #[] 5)).cell? ⟨p, 0, none⟩ = some (.slice A L.length c) := (((Below.refl w.heap.size w).alloc (Nat.le_refl _) (.cells #[] 5)).cell (p := ⟨p, 0, none⟩) (World.block_lt_of_cell? w _ c0)).trans c0
  have HR := Lib.hid (hr.later (w' := w.alloc (.cells #[] 5)) ((Below.refl _ _).alloc (Nat.le_refl _) _))
  have H := Lib.hid hE
  clear h hE hr
  go_enter Try.func33, Try.ntmps33
  go_wp2_with (at_builtin; refine append_row _ rfl _ _ 22 rfl 5 .u8 1 Try.underlying22 info_u8 (by decide) _ [] L A L.length c rfl rfl rfl Lcl.emp H.out.1 HR.out (by simp; omega) ?_; intro A' c' w' S' h' st'; have H' := Lib.hid h'; have ST' := Lib.hid st'; clear h' st')
  go_ret
  have h5 := H'.out
  simp only [List.length_nil, Nat.zero_add, List.nil_append] at h5
  have hst := (H.out.2).trans ST'.out
  have hb := belowF hst
  have h6 := Sep.left_of_emp h5
  obtain ⟨A2, c2, e2, h7, h8, h9⟩ := h6.reads
  injection e2 with e3 e5 e4
  subst e3 e4
  exact ⟨_, _, rfl, h8, hb, fun a ha => (hst.fresh _ (h9 a ha)).elim (fun x => x.elim) id⟩

end Go.Proofs.Ytfpeeilenocaoaa.Wire
