/- The index's Take: what it tells. -/
import Derived.Test.YtfpeeilenocaoaaIdxPut
import Derived.Test.YtfpeeilenocaoaaRelyW
namespace Go.Proofs.Ytfpeeilenocaoaa.Idx
open Go.RowKit Go.Proofs.Ytfpeeilenocaoaa.Own Go.Proofs.Ytfpeeilenocaoaa.Rely Go.Proofs.Ytfpeeilenocaoaa.Crc Go.Proofs.Ytfpeeilenocaoaa.Frame
open Wire (RS rbyte rbytes rnum rend Rd)
attribute [local go_sem] max_ints min_ints

/-- The entries that are read: so many are left, where the next one's frame is. -/
def lpX (ys : List Int) : Nat → Nat → RS → List Ent → List Ent × RS
  | 0, _, s, acc => (acc, s)
  | k + 1, a, s, acc => if s.err ≠ 0 then (acc, s) else lpX ys k (a + (rnum ys 1048576 (rbytes ys (rbyte ys s).2 (rbyte ys s).1).2).1) (rnum ys 1048576 (rbytes ys (rbyte ys s).2 (rbyte ys s).1).2).2
      (acc ++ [((rbytes ys (rbyte ys s).2 (rbyte ys s).1).1, (a : Int), ((rnum ys 1048576 (rbytes ys (rbyte ys s).2 (rbyte ys s).1).2).1 : Int))])
def startX (ys : List Int) : Nat × RS := if 0 < (rnum ys 1000 ⟨0, 0⟩).1 then rnum ys 1048576 (rnum ys 1000 ⟨0, 0⟩).2 else (0, (rnum ys 1000 ⟨0, 0⟩).2)
def bodyX (ys : List Int) : Except Int (List Ent) :=
  let r := lpX ys (rnum ys 1000 ⟨0, 0⟩).1 (startX ys).1 (startX ys).2 []
  if rend ys r.2 ≠ 0 then .error (rend ys r.2) else if checkX r.1 ≠ 0 then .error (checkX r.1) else .ok r.1
def takeX (xs : List Int) : Except Int (List Ent) :=
  if xs.length < 4 then .error 3 else if rightB xs = false then .error 10 else bodyX (xs.take (xs.length - 4))
def Told (w0 : World) (t : Except Int (List Ent)) (e : Ending) (w : World) : Prop :=
  Ext w0 w ∧ match t with
  | .error x => e = .returned (.tuple #[.slice none 0 0, .int .i64 x])
  | .ok l => ∃ A' c', e = .returned (.tuple #[.slice A' l.length c', .int .i64 0]) ∧ ReadsE w A' l ∧ l.length ≤ c' ∧ c' ≤ 9223372036854775807
section
variable {P : Program} {ops : Array Oper} {rest : List Oper} {o : Oper} {a : Act} {Q : Exit → Act → World → Prop}
/-- A struct of three parts: its run is known. -/
theorem build_known3 (w : World) (hgd : o.guard = none) (t : TypeId) (x0 x1 x2 : Operand) (ho : o.op = .build t #[(0, x0), (1, x1), (2, x2)])
    (v0 v1 v2 v' : Value) (h0 : a.eval x0 = v0) (h1 : a.eval x1 = v1) (h2 : a.eval x2 = v2) (hrun : (Instr.build t #[(0, v0), (1, v1), (2, v2)]).run P w = .ok v' w) (K : wpList P ops Q rest (a.put o.dst v') w) : wpList P ops Q (o :: rest) a w := by
  refine wpList_plain hgd fun K' hK => ?_
  unfold Oper.wp execOp
  simp only [ho, Sem.run_bind, Sem.run_pure, Result.andThen_ok, List.map_toArray, List.map_cons, List.map_nil, h0, h1, h2, hrun]
  exact hK _ _ K
end
theorem rd_iff {p : Nat} {A : Option Addr} {c : Nat} {xs : List Int} {s : RS} {w : World} {S : Nat → Prop} (h : Rd p A c xs s w S) : Rd p A c xs s w (fun k => k = p) ∧ ∀ k, S k ↔ k = p := ⟨⟨h.1, h.2.1, fun _ => Iff.rfl⟩, h.2.2⟩
theorem row_own {v : Value} {l : List Ent} {w : World} {S : Nat → Prop} (h : RowE v l w S) : RowE v l w (fun k => v.ownBlock = some k) ∧ ∀ k, S k ↔ v.ownBlock = some k := ⟨⟨h.1, fun _ => Iff.rfl⟩, h.2⟩

/-- One step from a known world to a known one. -/
def OneW (x y : World) (a b : World) : Prop := a = b ∨ (a = x ∧ b = y)
theorem OneW.refl (x y a : World) : OneW x y a a := .inl rfl
theorem OneW.trans (x y a b c : World) (h : OneW x y a b) (k : OneW x y b c) : OneW x y a c := by
  rcases h with rfl | ⟨h1, h2⟩
  · exact k
  · rcases k with rfl | ⟨_, k2⟩
    · exact .inr ⟨h1, h2⟩
    · exact .inr ⟨h1, k2⟩
theorem OneW.end_ {x y a b : World} (h : OneW x y a b) (ha : a = y) : b = y := by
  rcases h with rfl | ⟨_, h2⟩
  · exact ha
  · exact h2
theorem ext_keep {w0 w w' : World} {p : Nat} (h : Ext w0 w) (k : Keep (fun q => q = p) w w') (hp : w0.heap.size ≤ p) : Ext w0 w' := Below.trans h (k.below h.size (fun x hx hz => by have hz' : x = p := hz; omega))
section
variable {p bb oo c : Nat} {ys : List Int} {s : RS} {w : World}
theorem reads_k (hne : bb ≠ p) {w' : World} (hr : Reads w .u8 (some ⟨bb, oo, none⟩) ys) (k : Keep (fun q => q = p) w w') : Reads w' .u8 (some ⟨bb, oo, none⟩) ys := hr.keep k (fun a ha => by injection ha with ha; subst ha; exact hne)
theorem num_k (hne : bb ≠ p) (hx : IsBytes ys) (most : Nat) (h : Rd p (some ⟨bb, oo, none⟩) c ys s w (fun k => k = p)) (hr : Reads w .u8 (some ⟨bb, oo, none⟩) ys) :
    Calls Try.prog 43 #[.pointer (some ⟨p, 0, none⟩), .int .u64 most] w fun e w' => e = .returned (.int .u64 (rnum ys most s).1) ∧ Rd p (some ⟨bb, oo, none⟩) c ys (rnum ys most s).2 w' (fun k => k = p) ∧ Reads w' .u8 (some ⟨bb, oo, none⟩) ys ∧ Keep (fun q => q = p) w w' := by
  refine (Wire.uint_calls p _ c ys s most w _ hx h (fun w' k => reads_k hne hr k)).mono ?_
  rintro e w' ⟨S', ⟨q, h'⟩, st⟩
  exact ⟨q, (rd_iff h').1, reads_k hne hr st.keep, st.keep⟩
theorem byte_k (hne : bb ≠ p) (h : Rd p (some ⟨bb, oo, none⟩) c ys s w (fun k => k = p)) (hr : Reads w .u8 (some ⟨bb, oo, none⟩) ys) :
    Calls Try.prog 36 #[.pointer (some ⟨p, 0, none⟩)] w fun e w' => e = .returned (.int .u8 (rbyte ys s).1) ∧ Rd p (some ⟨bb, oo, none⟩) c ys (rbyte ys s).2 w' (fun k => k = p) ∧ Keep (fun q => q = p) w w' := by
  refine (Wire.byte_calls p _ c ys s w _ h hr).mono ?_
  rintro e w' ⟨S', ⟨q, h'⟩, st⟩
  exact ⟨q, (rd_iff h').1, st.keep⟩
theorem bytes_k (hne : bb ≠ p) (n : Int) (n1 : n ≤ 9223372036854775807) (h : Rd p (some ⟨bb, oo, none⟩) c ys s w (fun k => k = p)) (hr : Reads w .u8 (some ⟨bb, oo, none⟩) ys) :
    Calls Try.prog 35 #[.pointer (some ⟨p, 0, none⟩), .int .i64 n] w fun e w' => ∃ A', e = .returned (.slice A' (rbytes ys s n).1.length (rbytes ys s n).1.length) ∧ Rd p (some ⟨bb, oo, none⟩) c ys (rbytes ys s n).2 w' (fun k => k = p) ∧ (∀ w2, Reads w2 .u8 (some ⟨bb, oo, none⟩) ys → Reads w2 .u8 A' (rbytes ys s n).1) ∧ Keep (fun q => q = p) w w' := by
  refine (Wire.bytes_calls p _ c ys s n w _ h hr n1).mono ?_
  rintro e w' ⟨S', A', ⟨q, h'⟩, st, hrd, _⟩
  exact ⟨A', q, (rd_iff h').1, hrd, st.keep⟩
end
set_option maxHeartbeats 16000000 in
set_option maxRecDepth 20000 in
theorem take_c (A : Option Addr) (c : Nat) (xs : List Int) (w : World) (hr : Reads w .u8 A xs) (hb : IsBytes xs) (hl : xs.length ≤ 1000000) (hc : xs.length ≤ c) (hc2 : c ≤ 9223372036854775807) :
    Calls Try.prog 27 #[.slice A xs.length c] w fun e w' => Told w (takeX xs) e w' := by
  obtain ⟨T, hT⟩ : ∃ T, takeX xs = T := ⟨_, rfl⟩
  rw [hT]
  go_enter Try.func27, Try.ntmps27
  by_cases h4 : xs.length < 4
  · have g1 : decide ((xs.length : Int) < 4) = true := by simp; omega
    have hT2 : T = .error 3 := by rw [← hT]; exact if_pos h4
    subst hT2
    clear hr hb
    go_wp2_with fail
    go_ret2
    exact ⟨Ext.refl _, rfl⟩
  have g1 : decide ((xs.length : Int) < 4) = false := by simp; omega
  unfold takeX at hT
  rw [if_neg h4] at hT
  obtain ⟨bb, oo, rfl, hbb, _⟩ := hr 0 (by omega)
  have HRT := Lib.hid (Crc.right_calls w (some ⟨bb, oo, none⟩) c xs hr hb hl hc)
  have HR := Lib.hid hr
  have HB := Lib.hid hb
  clear hr hb
  go_wp2_with fail
  refine HRT.out.mono ?_
  rintro e w1 ⟨rfl, hx1⟩
  have X1 := Lib.hid (show Ext w w1 from hx1)
  have HR1 := Lib.hid (X1.out.reads HR.out)
  clear hx1 HRT
  by_cases hrt : rightB xs = false
  · rw [if_pos hrt] at hT
    subst hT
    rw [hrt]
    go_wp2_with fail
    go_ret2
    exact ⟨X1.out, rfl⟩
  rw [if_neg hrt] at hT
  have hrt2 : rightB xs = true := by simpa using hrt
  rw [hrt2]
  clear hrt hrt2
  have HYR := Lib.hid (HR1.out.take (xs.length - 4))
  have HYR0 := Lib.hid (HR.out.take (xs.length - 4))
  have HYB := Lib.hid (show IsBytes (xs.take (xs.length - 4)) from Crc.take_bytes HB.out _)
  have hyl : (xs.take (xs.length - 4)).length = xs.length - 4 := by rw [List.length_take]; omega
  generalize xs.take (xs.length - 4) = ys at hT HYR HYR0 HYB hyl
  have hi4 : (xs.length : Int) - 4 = (ys.length : Int) := by omega
  have hyc : ys.length ≤ c := by omega
  have hyx : ys.length ≤ xs.length := by omega
  have hym : ys.length ≤ 1000000 := by omega
  clear hyl h4 g1 HR HB
  go_wp2_with fail
  refine ((Wire.read_tri (some ⟨bb, oo, none⟩) c ys hyc hc2) w1 (fun _ => False) (fun _ x => x)).mono ?_
  rintro e w2 ⟨S2, ⟨p, rfl, h3⟩, st2⟩
  have hpw1 : w1.heap.size ≤ p := by
    rcases st2.fresh p (((rd_iff h3).2 p).2 rfl) with q | q
    · exact absurd q id
    · exact q
  have hpw : w.heap.size ≤ p := Nat.le_trans X1.out.size hpw1
  have hne : bb ≠ p := by omega
  have HRD2 := Lib.hid (rd_iff h3).1
  have X2 := Lib.hid (Ext.trans _ _ _ X1.out (Wire.belowF st2))
  have HYR2 := Lib.hid (Ext.reads (Wire.belowF st2) HYR.out)
  clear h3 st2 HYR HR1 X1 hpw1
  go_wp2_with fail
  refine (num_k hne HYB.out 1000 HRD2.out HYR2.out).mono ?_
  rintro e w3 ⟨rfl, hrd3, hyr3, hk3⟩
  have hle := Wire.rnum_le ys 1000 ⟨0, 0⟩
  unfold bodyX startX at hT
  obtain ⟨n, s1, hn⟩ : ∃ n s1, rnum ys 1000 ⟨0, 0⟩ = (n, s1) := ⟨_, _, rfl⟩
  rw [hn] at hrd3 hle hT ⊢
  simp only at hrd3 hle hT ⊢
  have HRD3 := Lib.hid hrd3
  have HYR3 := Lib.hid hyr3
  have X3 := Lib.hid (ext_keep X2.out hk3 hpw)
  clear hrd3 hyr3 hk3 HRD2 HYR2 X2 hn
  by_cases hn0 : 0 < n
  · have d1 : decide ((0 : Int) < (n : Int)) = true := by simp; omega
    rw [if_pos hn0] at hT
    go_wp2_with fail
    refine (num_k hne HYB.out 1048576 HRD3.out HYR3.out).mono ?_
    rintro e w4 ⟨rfl, hrd4, hyr4, hk4⟩
    have hle2 := Wire.rnum_le ys 1048576 s1
    obtain ⟨a0, s2, ha0⟩ : ∃ a0 s2, rnum ys 1048576 s1 = (a0, s2) := ⟨_, _, rfl⟩
    rw [ha0] at hrd4 hle2 hT ⊢
    simp only at hrd4 hle2 hT ⊢
    have HRD4 := Lib.hid hrd4
    have X4 := Lib.hid (ext_keep X3.out hk4 hpw)
    have HYR4 := Lib.hid hyr4
    clear hrd4 hyr4 hk4 HRD3 HYR3 X3 ha0
    obtain ⟨RES, hRES⟩ : ∃ RES, lpX ys n a0 s2 [] = RES := ⟨_, rfl⟩
    rw [hRES] at hT
    have HRES := Lib.hid (show RES = lpX ys (n - 0) a0 s2 [] from hRES.symm)
    clear hRES
    go_wp2_with fail
    go_loopw [5, 7, 8] (fun v5 v7 v8 wq => ∃ (i a : Nat) (s : RS) (acc : List Ent), i ≤ n ∧ v8 = .int .u64 i ∧ v7 = .int .i64 a ∧ RowE v5 acc wq (fun k => v5.ownBlock = some k) ∧ Rd p (some ⟨bb, oo, none⟩) c ys s wq (fun k => k = p) ∧ Ext w wq ∧ (∀ k, v5.ownBlock = some k → w.heap.size ≤ k ∧ k ≠ p) ∧ acc.length = i ∧ (a : Int) ≤ 1048576 * ((i : Int) + 1) ∧ RES = lpX ys (n - i) a s acc) (fun _ _ v _ => n - (intOf v).toNat)
    case atStart => exact ⟨0, a0, s2, [], by omega, rfl, rfl, ⟨(RowE.nil _).1, fun b => Iff.rfl⟩, HRD4.out, X4.out, fun k hk => by simp [Value.ownBlock] at hk, rfl, by omega, HRES.out⟩
    case round =>
      obtain ⟨i, a, s, acc, hi, rfl, rfl, hrow, hrd, hx, hown, hal, hab, hres⟩ := hrel
      have HROW := Lib.hid hrow
      have HRD := Lib.hid hrd
      have XL := Lib.hid hx
      have HOWN := Lib.hid hown
      clear hrow hrd hx hown HRD4 X4 HYR4 HRES
      by_cases hi2 : i < n
      · have d2 : decide ((i : Int) < (n : Int)) = true := by simp; omega
        obtain ⟨k, hk⟩ : ∃ k, n - i = k + 1 := ⟨n - i - 1, by omega⟩
        rw [hk] at hres
        unfold lpX at hres
        go_wp2_with fail
        refine (Wire.err_is p (some ⟨bb, oo, none⟩) c ys s wr _ HRD.out).mono ?_
        rintro e wa ⟨rfl, rfl⟩
        by_cases he : s.err = 0
        · rw [if_neg (show ¬ s.err ≠ 0 from fun q => q he)] at hres
          rw [he]
          have hbr := Wire.rbyte_range HYB.out s
          obtain ⟨b0, t1, hb0⟩ : ∃ b0 t1, rbyte ys s = (b0, t1) := ⟨_, _, rfl⟩
          rw [hb0] at hres hbr
          simp only at hres hbr
          obtain ⟨nm, t2, hnm⟩ : ∃ nm t2, rbytes ys t1 b0 = (nm, t2) := ⟨_, _, rfl⟩
          rw [hnm] at hres
          simp only at hres
          have hzl := Wire.rnum_le ys 1048576 t2
          obtain ⟨z, t3, hz⟩ : ∃ z t3, rnum ys 1048576 t2 = (z, t3) := ⟨_, _, rfl⟩
          rw [hz] at hres hzl
          simp only at hres hzl
          have HRS := Lib.hid hres
          have HAL := Lib.hid hal
          have hacc : acc.length ≤ 1000 := by omega
          clear hres hal
          go_wp2_with fail
          refine wp_region_next (by kernel_rfl) ?_
          have hdr : Ext wr wr.drew := (Ext.refl _).drew
          have HROWx := Lib.hid (Ext.keep (Lcl.rowE _ _) hdr HROW.out)
          have HRDx := Lib.hid (Ext.keep (Wire.loc_rd _ _ _ _ _) hdr HRD.out)
          have XLx := Lib.hid (Ext.trans _ _ _ XL.out hdr)
          clear hdr HROW HRD XL
          generalize wr.drew = wx at HROWx HRDx XLx ⊢
          have hpx : p < wx.heap.size := (Wire.loc_rd _ _ _ _ _).lt HRDx.out rfl
          have HYRx := Lib.hid (Ext.reads XLx.out HYR0.out)
          refine next_winW 0 12 Ext (fun x y => Keep (fun q => q = p) x y) [2, 4, 8] (fun m w' => RowE u5 acc w' (fun k => u5.ownBlock = some k) ∧ Rd p (some ⟨bb, oo, none⟩) c ys (match m with | 0 => s | 1 => t1 | 2 => t2 | _ => t3) w' (fun k => k = p))
            (fun _ _ h => Keep.of_below h) Ext.refl (fun m x y h e => ⟨Ext.keep (Lcl.rowE _ _) e h.1, Ext.keep (Wire.loc_rd _ _ _ _ _) e h.2⟩) ⟨HROWx.out, HRDx.out⟩ (fun w => Keep.refl _ _) (fun x y z h k => Keep.trans h k (fun _ _ q => q) (fun _ _ q => q))
            [[(4, none)], [(4, none)], [(42, some 1)], [(43, some 2)], [(41, some 0), (44, some 3)], [(45, some 4)], [(7, none)], [(4, none)], [(48, some 7)], [(49, some 8)], [(46, some 5), (47, some 6), (50, some 9)], []] [some 41, some 42, some 43, some 44, some 45, some 46, some 47, some 48, some 49, some 50, some 51, some 9] (by kernel_rfl) (by kernel_rfl) (by kernel_rfl) (by kernel_rfl) ?_
          intro Nx hNx
          apply relyW_const (by decide) (fun _ _ h => Keep.of_below h); case h => (intro wq hR a' h4 K hK; go_wp2_with fail; exact Ext.refl _)
          apply relyW_const (by decide) (fun _ _ h => Keep.of_below h); case h => (intro wq hR a' h4 K hK; go_wp2_with fail; exact Ext.refl _)
          refine relyW_the 0 rfl (fun v w => v = .int .u8 b0) (fun _ _ _ h _ => h) (by decide) ?h2 ?_
          case h2 =>
            intro wq hR hS a' h42 K hK
            have HC := byte_k hne hS.2 (reads_k hne HYRx.out hR)
            have HSR := Lib.hid hS.1
            have HK := Lib.hid hK
            rw [show (match 0 with | 0 => s | 1 => t1 | 2 => t2 | _ => t3) = s from rfl, hb0] at HC
            have HC2 := Lib.hid HC
            clear hK hS hR HC
            go_wp2_with fail
            refine HC2.out.mono ?_
            rintro e wz ⟨rfl, hrd', hk'⟩
            have HRD' := Lib.hid hrd'
            have HK' := Lib.hid hk'
            have HSR' := Lib.hid ((Lcl.rowE _ _).stay HSR.out hk' (fun x hx hz => (HOWN.out x hx).2 hz))
            clear hrd' hk'
            go_wp2_with fail
            exact HK.out _ _ HK'.out ⟨HSR'.out, HRD'.out⟩ rfl
          apply relyW_const (by decide) (fun _ _ h => Keep.of_below h); case h => (rintro wq hR a' v h43 rfl K hK; go_wp2_with fail; exact Ext.refl _)
          refine relyW_the 1 rfl (fun v w => ∃ A4, v = .slice A4 nm.length nm.length ∧ ∀ w2, Reads w2 .u8 (some ⟨bb, oo, none⟩) ys → Reads w2 .u8 A4 nm) (fun _ _ _ h _ => h) (by decide) ?h4 ?_
          case h4 =>
            intro wq hR hS a' h41 h44 K hK
            have HC := bytes_k hne b0 (by omega) hS.2 (reads_k hne HYRx.out hR)
            have HSR := Lib.hid hS.1
            have HK := Lib.hid hK
            rw [show (match 1 with | 0 => s | 1 => t1 | 2 => t2 | _ => t3) = t1 from rfl, hnm] at HC
            have HC2 := Lib.hid HC
            clear hK hS hR HC
            go_wp2_with fail
            refine HC2.out.mono ?_
            rintro e wz ⟨A4, rfl, hrd', hrr, hk'⟩
            have HRD' := Lib.hid hrd'
            have HK' := Lib.hid hk'
            have HRR := Lib.hid hrr
            have HSR' := Lib.hid ((Lcl.rowE _ _).stay HSR.out hk' (fun x hx hz => (HOWN.out x hx).2 hz))
            clear hrd' hk' hrr
            go_wp2_with fail
            exact HK.out _ _ HK'.out ⟨HSR'.out, HRD'.out⟩ ⟨A4, rfl, HRR.out⟩
          apply relyW_const (by decide) (fun _ _ h => Keep.of_below h)
          case h =>
            rintro wq hR a' v h45 ⟨A4, rfl, hrr⟩ K hK
            have cv : (convert 22 9 (.slice A4 nm.length nm.length)).run Try.prog wq = .ok (.string (strOfNums nm)) wq := (hrr wq (reads_k hne HYRx.out hR)).string (P := Try.prog) Try.underlying22 Try.underlying5 Try.underlying9 nm.length
            clear hrr
            go_wp2_with fail
            exact Ext.refl _
          apply relyW_const (by decide) (fun _ _ h => Keep.of_below h); case h => (intro wq hR a' h7 K hK; go_wp2_with fail; exact Ext.refl _)
          apply relyW_const (by decide) (fun _ _ h => Keep.of_below h); case h => (intro wq hR a' h4 K hK; go_wp2_with fail; exact Ext.refl _)
          refine relyW_the 2 rfl (fun v w => v = .int .u64 z) (fun _ _ _ h _ => h) (by decide) ?h8 ?_
          case h8 =>
            intro wq hR hS a' h48 K hK
            have HC := num_k hne HYB.out 1048576 hS.2 (reads_k hne HYRx.out hR)
            have HSR := Lib.hid hS.1
            have HK := Lib.hid hK
            rw [show (match 2 with | 0 => s | 1 => t1 | 2 => t2 | _ => t3) = t2 from rfl, hz] at HC
            have HC2 := Lib.hid HC
            clear hK hS hR HC
            go_wp2_with fail
            refine HC2.out.mono ?_
            rintro e wz ⟨rfl, hrd', _, hk'⟩
            have HRD' := Lib.hid hrd'
            have HK' := Lib.hid hk'
            have HSR' := Lib.hid ((Lcl.rowE _ _).stay HSR.out hk' (fun x hx hz => (HOWN.out x hx).2 hz))
            clear hrd' hk'
            go_wp2_with fail
            exact HK.out _ _ HK'.out ⟨HSR'.out, HRD'.out⟩ rfl
          apply relyW_const (by decide) (fun _ _ h => Keep.of_below h); case h => (rintro wq hR a' v h49 rfl K hK; go_wp2_with fail; exact Ext.refl _)
          refine relyW_const (by decide) (fun _ _ h => Keep.of_below h) (.agg #[.string (strOfNums nm), .int .i64 a, .int .i64 z]) ?h10 ?_
          case h10 =>
            intro wq hR a' h46 h47 h50 K hK
            refine build_known3 wq rfl _ _ _ _ rfl (.string (strOfNums nm)) (.int .i64 a) (.int .i64 z) (.agg #[.string (strOfNums nm), .int .i64 a, .int .i64 z]) h46 h47 h50 ?_ ?_
            · exact (by simp [Instr.build, go_sem])
            · have HK := Lib.hid (hK _ (Ext.refl _))
              clear hK
              go_wp2_with fail
              exact HK.out
          refine relyW_rel (by decide) (fun _ _ h => Keep.of_below h) (fun v w => ∃ pn, v = .pointer (some ⟨pn, 0, none⟩) ∧ wx.heap.size ≤ pn ∧ Blk pn #[.string ⟨#[]⟩, .int .i64 0, .int .i64 0] 55 w (fun q => q = pn)) (fun v w w' ⟨pn, e, hp, h⟩ x => ⟨pn, e, hp, (Lcl.blk _ _ _).stay h x (fun y hy hz => by have hy' : y = pn := hy; have hz' : y = p := hz; omega)⟩) ?h11 ?_
          case h11 =>
            intro wq hR a' K hK
            have hnb := heap_alloc_new wq (.cells #[.string ⟨#[]⟩, .int .i64 0, .int .i64 0] 55)
            have HK := Lib.hid (hK _ _ ((Below.refl _ _).alloc (Nat.le_refl _) _) ⟨wq.heap.size, rfl, hR.size, hnb, fun _ => Iff.rfl⟩)
            clear hK hnb
            go_wp2_with fail
            exact HK.out
          refine relyW_end ?_
          intro wy hR hS
          simp only [had, List.take_succ_cons, List.take_zero, List.map_cons, List.map_nil, List.cons_append, List.nil_append, ends, Act.put, List.setIfInBounds_toArray, List.set_cons_zero, List.set_cons_succ]
          rintro v43 - v45 - v49 - v9 ⟨pn, rfl, hpn, hbn⟩
          refine hNx _ _ ?_
          have HROWy := Lib.hid hS.1
          have HRDy := Lib.hid (show Rd p (some ⟨bb, oo, none⟩) c ys t3 wy (fun k => k = p) from hS.2)
          have XLy := Lib.hid (ext_keep XLx.out hR hpw)
          clear hS hR
          obtain ⟨z0, hz0⟩ : ∃ z0, (wy).setCell ⟨pn, 0, none⟩ (.string (strOfNums nm)) = z0 := ⟨_, rfl⟩
          have Bz0 := hbn.set 0 (.string (strOfNums nm))
          rw [hz0] at Bz0
          have jz0 : (wy).cell? ⟨pn, 0, none⟩ = some (.string ⟨#[]⟩) := hbn.cell 0
          have fz0 := hbn.free 0
          have Dz0 : Blk pn #[.string (strOfNums nm), .int .i64 0, .int .i64 0] 55 z0 (fun q => q = pn) := Bz0.1
          have Kz0 := Bz0.2.keep
          clear Bz0
          obtain ⟨z1, hz1⟩ : ∃ z1, (z0).setCell ⟨pn, 1, none⟩ (.int .i64 a) = z1 := ⟨_, rfl⟩
          have Bz1 := Dz0.set 1 (.int .i64 a)
          rw [hz1] at Bz1
          have jz1 : (z0).cell? ⟨pn, 1, none⟩ = some (.int .i64 0) := Dz0.cell 1
          have fz1 := Dz0.free 1
          have Dz1 : Blk pn #[.string (strOfNums nm), .int .i64 a, .int .i64 0] 55 z1 (fun q => q = pn) := Bz1.1
          have Kz1 := Bz1.2.keep
          clear Bz1
          obtain ⟨z2, hz2⟩ : ∃ z2, (z1).setCell ⟨pn, 2, none⟩ (.int .i64 z) = z2 := ⟨_, rfl⟩
          have Bz2 := Dz1.set 2 (.int .i64 z)
          rw [hz2] at Bz2
          have jz2 : (z1).cell? ⟨pn, 2, none⟩ = some (.int .i64 0) := Dz1.cell 2
          have fz2 := Dz1.free 2
          have Dz2 : Blk pn #[.string (strOfNums nm), .int .i64 a, .int .i64 z] 55 z2 (fun q => q = pn) := Bz2.1
          have Kz2 := Bz2.2.keep
          clear Bz2
          have ho1 : ∀ k, u5.ownBlock = some k → k < pn := fun k hk => Nat.lt_of_lt_of_le ((Lcl.rowE _ _).lt HROWx.out hk) hpn
          have hpnw : w.heap.size ≤ pn := Nat.le_trans XLx.out.size hpn
          refine next_win 12 13 (fun a b => a = b) (OneW wy z2) 12 4095 (fun _ _ h => .inl h) (fun _ => rfl) (fun _ _ _ h k => h.trans k) (OneW.refl _ _) (OneW.trans _ _) [[(9, none), (51, none)]] [none, none, none, none, none, none, none, none, none, none, none, none, none] (by kernel_rfl) (by kernel_rfl) (by kernel_rfl) (by kernel_rfl) ?_
          intro Ny hNy
          refine relyD_the rfl (fun v w => w = z2) (fun v w w' h r => r.end_ h) ?h12 ?_
          case h12 =>
            intro wq hwq a' h9 h51 K hK
            subst hwq
            have HK := Lib.hid (hK undef _ (.inr ⟨rfl, rfl⟩) rfl)
            clear hK
            go_wp2_with fail
            exact HK.out
          refine relyD_end ?_
          intro wz hR
          simp only [had, List.take_succ_cons, List.take_zero, List.map_cons, List.map_nil, List.cons_append, List.nil_append, ends, Act.put, List.setIfInBounds_toArray, List.set_cons_zero, List.set_cons_succ]
          intro vz hvz; obtain rfl := hvz.symm
          refine hNy _ _ ?_
          clear hR
          refine next_done rfl ?_
          try simp only [Act.put, List.setIfInBounds_toArray, List.set_cons_zero, List.set_cons_succ]
          have cy0 : z2.cell? ⟨pn, 0, none⟩ = some (.string (strOfNums nm)) := Dz2.cell 0
          have cy1 : z2.cell? ⟨pn, 1, none⟩ = some (.int .i64 a) := Dz2.cell 1
          have cy2 : z2.cell? ⟨pn, 2, none⟩ = some (.int .i64 z) := Dz2.cell 2
          have hnp : ∀ x, u5.ownBlock = some x → x = pn → False := fun x hx hz => by have := ho1 x hx; omega
          have HSEP := Lib.hid (Sep.emp_right ((Lcl.rowE _ _).stay ((Lcl.rowE _ _).stay ((Lcl.rowE _ _).stay HROWy.out Kz0 hnp) Kz1 hnp) Kz2 hnp))
          have hpp : ∀ x, x = p → x = pn → False := fun x hx hz => by omega
          have HRDz := Lib.hid ((Wire.loc_rd _ _ _ _ _).stay ((Wire.loc_rd _ _ _ _ _).stay ((Wire.loc_rd _ _ _ _ _).stay HRDy.out Kz0 hpp) Kz1 hpp) Kz2 hpp)
          have XLz := Lib.hid (ext_keep (ext_keep (ext_keep XLy.out Kz0 hpnw) Kz1 hpnw) Kz2 hpnw)
          have hpz : p < z2.heap.size := (Wire.loc_rd _ _ _ _ _).lt HRDz.out rfl
          have hlen : (acc.length + 1) * 32 ≤ 140737488355328 := by omega
          have HO1 := Lib.hid ho1
          clear hz0 hz1 hz2 jz0 jz1 jz2 fz0 fz1 fz2 Dz0 Dz1 Dz2 Kz0 Kz1 Kz2 hbn HROWy HRDy XLy hnp hpp ho1 HROWx HRDx XLx HYRx he hb0 hnm hz hvz
          go_wp2_with (at_builtin; refine append_ent z2 rfl _ _ 50 rfl (.agg #[.string ⟨#[]⟩, .int .i64 0, .int .i64 0]) 32 Try.underlying50 info_ent rfl u5 acc (nm, (a : Int), (z : Int)) rfl rfl Lcl.emp HSEP.out hlen (by decide) ?_; intro A' c' w' S' h' st'; have cz2 := st'.keep.cell cy2 (fun h => absurd (HO1.out _ h) (by simp)); have HA' := Lib.hid h'; have HT' := Lib.hid st'; clear h' st')
          go_roundw
          case rel =>
            have hro := row_own HA'.out.left_of_emp
            have hab2 : ((a + z : Nat) : Int) ≤ 1048576 * (((i + 1 : Nat) : Int) + 1) := by omega
            have hnk : n - (i + 1) = k := by omega
            have hresN : RES = lpX ys (n - (i + 1)) (a + z) t3 (acc ++ [(nm, (a : Int), (z : Int))]) := by rw [hnk]; exact HRS.out
            refine ⟨i + 1, a + z, t3, acc ++ [(nm, (a : Int), (z : Int))], by omega, by go_num, by go_num, hro.1, (Wire.loc_rd _ _ _ _ _).stay HRDz.out HT'.out.keep (fun x hx hz => (HOWN.out x hz).2 hx), Below.trans XLz.out (HT'.out.keep.below XLz.out.size (fun x hx hz => by have := (HOWN.out x hz).1; omega)), fun q hq => ?_, by simp [HAL.out], hab2, hresN⟩
            rcases HT'.out.fresh q ((hro.2 q).2 hq) with y | y
            · exact HOWN.out q y
            · exact ⟨Nat.le_trans XLz.out.size y, by omega⟩
          case measure => simp [intOf]; omega
        · have heb : (s.err == 0) = false := by simpa using he
          have heb2 : decide (s.err = 0) = false := by simpa using he
          have hR2 : RES = (acc, s) := by rw [hres, if_pos he]
          rw [hR2] at hT
          have hTf := hT
          simp only at hTf
          have HROWf := HROW
          have HRDf := HRD
          have Xf := XL
          have hacc : acc.length ≤ 1000 := by omega
          clear hres hR2 hT HROW HRD XL hal
          go_wp2_with fail
          refine (Wire.end_is p (some ⟨bb, oo, none⟩) c ys s wr _ HRDf.out).mono ?_
          rintro e wf ⟨rfl, nf, rfl⟩
          have XF := Lib.hid (Ext.trans _ _ _ Xf.out (Wire.ext_drewN wr nf))
          have HROW9 := Lib.hid (Ext.keep (Lcl.rowE _ _) (Wire.ext_drewN wr nf) HROWf.out)
          obtain ⟨E, hE⟩ : ∃ E, rend ys s = E := ⟨_, rfl⟩
          rw [hE] at hTf ⊢
          clear HROWf HRDf Xf hE
          have HTf := Lib.hid hTf
          clear hTf
          by_cases hE0 : E = 0
          · subst hE0
            have hT3 := HTf.out
            rw [if_neg (by simp)] at hT3
            clear HTf
            obtain ⟨Av, cv, rfl, hcv1, hrdv, _, hcv2⟩ := HROW9.out.reads
            have HRE := Lib.hid hrdv
            have HCK := Lib.hid (check_c Av cv acc _ hrdv (by first | omega | simp))
            obtain ⟨N, hN⟩ : ∃ N, checkX acc = N := ⟨_, rfl⟩
            rw [hN] at HCK hT3
            have HT3 := Lib.hid hT3
            clear hT3
            clear hrdv hN
            go_wp2_with fail
            refine HCK.out.mono ?_
            rintro e wg ⟨rfl, hxg⟩
            have XG := Lib.hid (Ext.trans _ _ _ XF.out hxg)
            have HRG := Lib.hid (HRE.out.ext hxg)
            clear hxg HCK
            by_cases hN0 : N = 0
            · subst hN0
              have hT4 := HT3.out
              rw [if_neg (by simp)] at hT4
              clear HT3
              subst hT4
              go_wp2_with fail
              go_ret2
              exact ⟨XG.out, Av, cv, rfl, HRG.out, hcv1, hcv2⟩
            · have hnb : ((N : Int) != 0) = true := by simp; omega
              have hnb2 : ¬ (N : Int) = 0 := by omega
              have hT4 := HT3.out
              rw [if_pos hN0] at hT4
              clear HT3
              subst hT4
              go_wp2_with fail
              go_ret2
              exact ⟨XG.out, rfl⟩
          · have hnb : (E != 0) = true := by simpa using hE0
            have hT4 := HTf.out
            rw [if_pos hE0] at hT4
            clear HTf
            subst hT4
            go_wp2_with fail
            go_ret2
            exact ⟨XF.out, rfl⟩
      · have d2 : decide ((i : Int) < (n : Int)) = false := by simp; omega
        have hR2 : RES = (acc, s) := by rw [hres, show n - i = 0 by omega]; rfl
        rw [hR2] at hT
        have hTf := hT
        simp only at hTf
        have HROWf := HROW
        have HRDf := HRD
        have Xf := XL
        have hacc : acc.length ≤ 1000 := by omega
        clear hres hR2 hT HROW HRD XL hal
        go_wp2_with fail
        refine (Wire.end_is p (some ⟨bb, oo, none⟩) c ys s wr _ HRDf.out).mono ?_
        rintro e wf ⟨rfl, nf, rfl⟩
        have XF := Lib.hid (Ext.trans _ _ _ Xf.out (Wire.ext_drewN wr nf))
        have HROW9 := Lib.hid (Ext.keep (Lcl.rowE _ _) (Wire.ext_drewN wr nf) HROWf.out)
        obtain ⟨E, hE⟩ : ∃ E, rend ys s = E := ⟨_, rfl⟩
        rw [hE] at hTf ⊢
        clear HROWf HRDf Xf hE
        have HTf := Lib.hid hTf
        clear hTf
        by_cases hE0 : E = 0
        · subst hE0
          have hT3 := HTf.out
          rw [if_neg (by simp)] at hT3
          clear HTf
          obtain ⟨Av, cv, rfl, hcv1, hrdv, _, hcv2⟩ := HROW9.out.reads
          have HRE := Lib.hid hrdv
          have HCK := Lib.hid (check_c Av cv acc _ hrdv (by first | omega | simp))
          obtain ⟨N, hN⟩ : ∃ N, checkX acc = N := ⟨_, rfl⟩
          rw [hN] at HCK hT3
          have HT3 := Lib.hid hT3
          clear hT3
          clear hrdv hN
          go_wp2_with fail
          refine HCK.out.mono ?_
          rintro e wg ⟨rfl, hxg⟩
          have XG := Lib.hid (Ext.trans _ _ _ XF.out hxg)
          have HRG := Lib.hid (HRE.out.ext hxg)
          clear hxg HCK
          by_cases hN0 : N = 0
          · subst hN0
            have hT4 := HT3.out
            rw [if_neg (by simp)] at hT4
            clear HT3
            subst hT4
            go_wp2_with fail
            go_ret2
            exact ⟨XG.out, Av, cv, rfl, HRG.out, hcv1, hcv2⟩
          · have hnb : ((N : Int) != 0) = true := by simp; omega
            have hnb2 : ¬ (N : Int) = 0 := by omega
            have hT4 := HT3.out
            rw [if_pos hN0] at hT4
            clear HT3
            subst hT4
            go_wp2_with fail
            go_ret2
            exact ⟨XG.out, rfl⟩
        · have hnb : (E != 0) = true := by simpa using hE0
          have hT4 := HTf.out
          rw [if_pos hE0] at hT4
          clear HTf
          subst hT4
          go_wp2_with fail
          go_ret2
          exact ⟨XF.out, rfl⟩
  · obtain rfl : n = 0 := by omega
    have d1 : decide ((0 : Int) < ((0 : Nat) : Int)) = false := by simp
    rw [if_neg hn0] at hT
    have hTf : (if rend ys s1 ≠ 0 then .error (rend ys s1) else if checkX [] ≠ 0 then .error ((checkX [] : Nat) : Int) else .ok []) = T := hT
    have HTF := Lib.hid hTf
    clear hT hTf hn0
    go_wp2_with fail
    go_loopw [5, 8] (fun v5 v8 wq => v5 = .slice none 0 0 ∧ v8 = .int .u64 0 ∧ Rd p (some ⟨bb, oo, none⟩) c ys s1 wq (fun k => k = p) ∧ Ext w wq) (fun _ _ _ => 0)
    case atStart => exact ⟨rfl, rfl, HRD3.out, X3.out⟩
    case round =>
      obtain ⟨rfl, rfl, hrdq, hxq⟩ := hrel
      have HRDf := Lib.hid hrdq
      have Xf := Lib.hid hxq
      have hTf := HTF.out
      clear hrdq hxq HRD3 X3 HYR3 HTF
      go_wp2_with fail
      refine (Wire.end_is p (some ⟨bb, oo, none⟩) c ys s1 wr _ HRDf.out).mono ?_
      rintro e wf ⟨rfl, nf, rfl⟩
      have XF := Lib.hid (Ext.trans _ _ _ Xf.out (Wire.ext_drewN wr nf))
      obtain ⟨E, hE⟩ : ∃ E, rend ys s1 = E := ⟨_, rfl⟩
      rw [hE] at hTf ⊢
      clear HRDf Xf hE
      have HTf := Lib.hid hTf
      clear hTf
      by_cases hE0 : E = 0
      · subst hE0
        have hT3 := HTf.out
        rw [if_neg (by simp)] at hT3
        clear HTf
        have hrdv : ReadsE (wr.drewN nf) none [] := fun i hi => absurd hi (Nat.not_lt_zero i)
        have HRE := Lib.hid hrdv
        have HCK := Lib.hid (show Calls Try.prog 24 #[.slice none 0 0] (wr.drewN nf) fun e w' => e = .returned (.int .i64 (checkX [])) ∧ Ext (wr.drewN nf) w' from check_c none 0 [] _ hrdv (by simp))
        obtain ⟨N, hN⟩ : ∃ N, checkX [] = N := ⟨_, rfl⟩
        rw [hN] at HCK hT3
        have HT3 := Lib.hid hT3
        clear hT3
        clear hrdv hN
        go_wp2_with fail
        refine HCK.out.mono ?_
        rintro e wg ⟨rfl, hxg⟩
        have XG := Lib.hid (Ext.trans _ _ _ XF.out hxg)
        have HRG := Lib.hid (HRE.out.ext hxg)
        clear hxg HCK
        by_cases hN0 : N = 0
        · subst hN0
          have hT4 := HT3.out
          rw [if_neg (by simp)] at hT4
          clear HT3
          subst hT4
          go_wp2_with fail
          go_ret2
          exact ⟨XG.out, none, 0, rfl, HRG.out, Nat.le_refl _, by omega⟩
        · have hnb : ((N : Int) != 0) = true := by simp; omega
          have hnb2 : ¬ (N : Int) = 0 := by omega
          have hT4 := HT3.out
          rw [if_pos hN0] at hT4
          clear HT3
          subst hT4
          go_wp2_with fail
          go_ret2
          exact ⟨XG.out, rfl⟩
      · have hnb : (E != 0) = true := by simpa using hE0
        have hT4 := HTf.out
        rw [if_pos hE0] at hT4
        clear HTf
        subst hT4
        go_wp2_with fail
        go_ret2
        exact ⟨XF.out, rfl⟩
end Go.Proofs.Ytfpeeilenocaoaa.Idx
