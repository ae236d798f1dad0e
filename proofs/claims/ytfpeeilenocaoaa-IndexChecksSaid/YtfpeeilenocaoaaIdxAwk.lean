/- What is put is taken; the law's fixed fact. -/
import Derived.Test.YtfpeeilenocaoaaIdxMake
import Derived.Test.YtfpeeilenocaoaaCrcSums
namespace Go.Proofs.Ytfpeeilenocaoaa.Idx
open Go.RowKit Go.Proofs.Ytfpeeilenocaoaa.Own Go.Proofs.Ytfpeeilenocaoaa.Rely Go.Proofs.Ytfpeeilenocaoaa.Crc Go.Proofs.Ytfpeeilenocaoaa.Frame
open Wire (RS rbyte rbytes rnum rend Rd enc)
attribute [local go_sem] max_ints min_ints
theorem chk1_next {q x : Ent} (h : chk1 (some q) x = 0) : less q.1 x.1 = true ∧ x.2.1 = q.2.1 + q.2.2 := by
  unfold chk1 at h
  split at h
  · cases h
  · split at h
    · cases h
    · simp only at h
      split at h
      · cases h
      · rename_i h1
        split at h
        · rename_i h2; exact ⟨by simpa using h1, h2⟩
        · cases h
theorem chkL_cons {p : Option Ent} {x : Ent} {l : List Ent} (h : chkL p (x :: l) = 0) : chk1 p x = 0 ∧ chkL (some x) l = 0 := by
  unfold chkL at h
  split at h
  · rename_i h1; exact ⟨h1, h⟩
  · rename_i h1; exact absurd h h1
theorem lp_put (V : List Int) : ∀ (rest acc : List Ent) (p : Option Ent) (a i : Nat), chkL p rest = 0 → (∀ x r, rest = x :: r → x.2.1 = (a : Int)) → V.drop i = rest.flatMap entB → i ≤ V.length →
    lpX V rest.length a ⟨i, 0⟩ acc = (acc ++ rest, ⟨V.length, 0⟩) := by
  intro rest
  induction rest with
  | nil =>
    intro acc p a i _ _ hd hi
    have : V.length ≤ i := by simpa using hd
    obtain rfl : i = V.length := by omega
    simp [lpX]
  | cons x r ih =>
    intro acc p a i hc ha hd hi
    obtain ⟨h1, h2⟩ := chkL_cons hc
    have hb := chk1_ok h1
    have hax := ha x r rfl
    obtain ⟨nm, at_, sz⟩ := x
    simp only at hb hax
    subst hax
    obtain ⟨z, rfl⟩ : ∃ z : Nat, sz = (z : Int) := ⟨sz.toNat, by omega⟩
    have hd0 : V.drop i = (nm.length : Int) :: (nm ++ (enc z ++ r.flatMap entB)) := by
      rw [hd]; simp [entB]
    have hd1 : V.drop (i + 1) = nm ++ (enc z ++ r.flatMap entB) := by rw [← List.drop_drop, hd0]; rfl
    have hd2 : V.drop (i + 1 + nm.length) = enc z ++ r.flatMap entB := by rw [← List.drop_drop, hd1, List.drop_left]
    have hd3 : V.drop (i + 1 + nm.length + (enc z).length) = r.flatMap entB := by rw [← List.drop_drop, hd2, List.drop_left]
    have hlen : V.length - i = 1 + (nm.length + ((enc z).length + (r.flatMap entB).length)) := by
      have := congrArg List.length hd0
      simp only [List.length_drop, List.length_cons, List.length_append] at this
      omega
    have e1 : rbyte V ⟨i, 0⟩ = ((nm.length : Int), ⟨i + 1, 0⟩) := Wire.rbyte_at hd0
    have e2 : rbytes V ⟨i + 1, 0⟩ (nm.length : Int) = (nm, ⟨i + 1 + nm.length, 0⟩) := by
      unfold Wire.rbytes
      rw [if_neg]
      · rw [hd1, Int.toNat_natCast, List.take_left]
      · have : Wire.rleft V ⟨i + 1, 0⟩ = V.length - (i + 1) := by unfold Wire.rleft; rw [if_pos rfl]
        rw [this]; omega
    have hz64 : U64 z := by show z < 18446744073709551616; omega
    have e3 : rnum V 1048576 ⟨i + 1 + nm.length, 0⟩ = (z, ⟨i + 1 + nm.length + (enc z).length, 0⟩) := Wire.rnum_enc hd2 hz64 (by omega)
    rw [List.length_cons]
    unfold lpX
    rw [if_neg (fun h => h rfl)]
    simp only [e1, e2, e3]
    rw [ih (acc ++ [(nm, (a : Int), (z : Int))]) _ (a + z) _ h2 (fun y r' hy => by
      subst hy
      have := (chk1_next (chkL_cons h2).1).2
      simp only at this
      rw [this]; omega) hd3 (by omega)]
    simp
theorem idx_nil : idxB [] = [0] := by
  unfold idxB partB
  rw [if_pos (show ([] : List Ent).length = 0 from rfl)]
  exact Wire.enc_small (by decide)
theorem take_put {l : List Ent} (h : checkX l = 0) (hn : NmB l) : takeX (sumd (idxB l)) = .ok l := by
  obtain ⟨h1, h2⟩ := check_bd h
  have hpb := part_bytes h hn l.length
  have hl4 := sumd_len (idxB l)
  have hr : rightB (sumd (idxB l)) = true := put_right hpb
  have ht : (sumd (idxB l)).take ((sumd (idxB l)).length - 4) = idxB l := by
    rw [hl4, Nat.add_sub_cancel]
    unfold sumd
    rw [List.take_left]
  unfold takeX
  rw [if_neg (by omega), if_neg (by rw [hr]; decide), ht]
  have hc : chkL none l = 0 := by
    unfold checkX at h
    rwa [if_neg (by omega)] at h
  unfold bodyX startX
  cases l with
  | nil =>
    have e1 : rnum (idxB []) 1000 ⟨0, 0⟩ = (0, ⟨1, 0⟩) := by
      rw [idx_nil]
      have hd : ([0] : List Int).drop 0 = enc 0 ++ [] := by rw [Wire.enc_small (by decide)]; rfl
      have := Wire.rnum_enc (most := 1000) hd (show 0 < 18446744073709551616 by omega) (by omega)
      rw [this, Wire.enc_small (by decide)]; rfl
    rw [e1, idx_nil]
    rfl
  | cons x r =>
    have hb := h2 x (List.mem_cons_self ..)
    obtain ⟨nm, at_, sz⟩ := x
    obtain ⟨_, _, ha0, ha1, _, _⟩ := hb
    simp only at ha0 ha1
    obtain ⟨a, rfl⟩ : ∃ a : Nat, at_ = (a : Int) := ⟨at_.toNat, by omega⟩
    have hform : idxB ((nm, (a : Int), sz) :: r) = enc (r.length + 1) ++ (enc a ++ ((nm, (a : Int), sz) :: r).flatMap entB) := by
      unfold idxB partB
      rw [if_neg (by simp), List.take_of_length_le (Nat.le_refl _), List.append_assoc]
      rfl
    obtain ⟨V, hV⟩ : ∃ V, idxB ((nm, (a : Int), sz) :: r) = V := ⟨_, rfl⟩
    rw [hV] at hform ⊢
    have hlen := congrArg List.length hform
    simp only [List.length_append] at hlen
    have hd0 : V.drop 0 = enc (r.length + 1) ++ (enc a ++ ((nm, (a : Int), sz) :: r).flatMap entB) := hform
    have hd1 : V.drop (0 + (enc (r.length + 1)).length) = enc a ++ ((nm, (a : Int), sz) :: r).flatMap entB := by rw [← List.drop_drop, hd0, List.drop_left]
    have hd2 : V.drop (0 + (enc (r.length + 1)).length + (enc a).length) = ((nm, (a : Int), sz) :: r).flatMap entB := by rw [← List.drop_drop, hd1, List.drop_left]
    have hl1 : r.length + 1 ≤ 1000 := h1
    have e1 : rnum V 1000 ⟨0, 0⟩ = (r.length + 1, ⟨0 + (enc (r.length + 1)).length, 0⟩) := Wire.rnum_enc hd0 (show r.length + 1 < 18446744073709551616 by omega) hl1
    have e2 : rnum V 1048576 ⟨0 + (enc (r.length + 1)).length, 0⟩ = (a, ⟨0 + (enc (r.length + 1)).length + (enc a).length, 0⟩) := Wire.rnum_enc hd1 (show a < 18446744073709551616 by omega) (by omega)
    have e3 := lp_put V ((nm, (a : Int), sz) :: r) [] none a _ hc (fun y r' hy => by injection hy with hy _; rw [← hy]) hd2 (by omega)
    rw [List.length_cons] at e3
    rw [e1]
    simp only
    rw [if_pos (show 0 < r.length + 1 by omega), e2]
    simp only [List.length_cons, e3, List.nil_append]
    have hrend : rend V ⟨V.length, 0⟩ = 0 := by
      unfold Wire.rend
      rw [if_neg (fun q => absurd q.2 (by simp))]
    rw [hrend, if_neg (fun q => q rfl), h, if_neg (fun q => q rfl)]

set_option maxHeartbeats 4000000 in
set_option maxRecDepth 20000 in
theorem awake21 (w : World) : Calls Try.prog 22 #[] w fun e w' => e = .returned (.bool true) ∧ Ext w w' := by
  have hx0 : Ext w (w.alloc (.cells #[] 55)) := (Below.refl _ _).alloc (Nat.le_refl _) _
  have hp := put_c (some ⟨w.heap.size, 0, none⟩) 0 [] (w.alloc (.cells #[] 55)) (fun i hi => absurd hi (Nat.not_lt_zero i)) rfl (fun x hx => by cases hx)
  have htp := take_put (l := []) rfl (fun x hx => by cases hx)
  have hpb := sumd_bytes (part_bytes (l := []) rfl (fun x hx => by cases hx) 0)
  replace hpb : IsBytes (sumd (idxB [])) := hpb
  have hfl : (sumd (idxB [])).length = 5 := by rw [sumd_len, idx_nil]; rfl
  generalize sumd (idxB []) = FB at hp htp hpb hfl
  have HP := Lib.hid (show Calls Try.prog 25 #[.slice (some ⟨w.heap.size, 0, none⟩) 0 0] (w.alloc (.cells #[] 55)) _ from hp)
  have HTP := Lib.hid htp
  have HFB := Lib.hid hpb
  have HFL := Lib.hid hfl
  have X0 := Lib.hid hx0
  clear hp htp hpb hfl hx0
  go_enter Try.func22, Try.ntmps22
  go_wp2_with fail
  refine HP.out.mono ?_
  rintro e w1 ⟨A1, c1, rfl, hr1, hc1, hc2, hx1⟩
  have HR1 := Lib.hid hr1
  have X1 := Lib.hid (Ext.trans _ _ _ X0.out hx1)
  clear hr1 hx1
  go_wp2_with fail
  refine (take_c A1 c1 FB w1 HR1.out HFB.out (by have := HFL.out; omega) hc1 hc2).mono ?_
  rintro e w2 ⟨hx2, ht⟩
  rw [HTP.out] at ht
  obtain ⟨A2, c2, rfl, _⟩ := ht
  have X2 := Lib.hid (Ext.trans _ _ _ X1.out hx2)
  clear hx2
  rw [HFL.out]
  go_wp2_with fail
  go_ret
  exact ⟨rfl, X2.out⟩
end Go.Proofs.Ytfpeeilenocaoaa.Idx
