/- Frames: herbariumlaw20's Small frames; Take; Awake. -/
import Derived.Test.YtfpeeilenocaoaaFrame
import Derived.Test.YtfpeeilenocaoaaCrcSums
namespace Go.Proofs.Ytfpeeilenocaoaa.Frame
open Go.RowKit Go.Proofs.Ytfpeeilenocaoaa.Own Go.Proofs.Ytfpeeilenocaoaa.Rely Go.Proofs.Ytfpeeilenocaoaa.Crc
attribute [local go_sem] max_ints min_ints

/-- A small frame's name. -/
def nameS (nm : List Int) : List Int := (110 :: nm).take 255
theorem nameS_len (nm : List Int) : 1 ≤ (nameS nm).length ∧ (nameS nm).length ≤ 255 ∧ ((nameS nm).length = min (nm.length + 1) 255) := by
  unfold nameS; rw [List.length_take]; simp only [List.length_cons]; omega
theorem nameS_bytes {nm : List Int} (h : IsBytes nm) : IsBytes (nameS nm) := by
  intro x hx
  have := List.mem_of_mem_take hx
  rcases List.mem_cons.1 this with rfl | h1
  · omega
  · exact h x h1
theorem str_n (nm : List Int) : (⟨#[110]⟩ : ByteArray) ++ strOfNums nm = strOfNums (110 :: nm) := by
  have : (⟨#[110]⟩ : ByteArray) = strOfNums [110] := by decide
  rw [this, str_app]; rfl
theorem str_take (xs : List Int) (n : Nat) (h : n ≤ xs.length) : (strOfNums xs).extract 0 n = strOfNums (xs.take n) := by
  apply ByteArray.ext
  simp [ByteArray.extract, ByteArray.copySlice, strOfNums]
set_option maxHeartbeats 4000000 in
set_option maxRecDepth 20000 in
theorem small_c (A1 A2 : Option Addr) (c1 c2 n2 : Nat) (nm : List Int) (k : Nat) (w : World) (hr : Reads w .u8 A1 nm) (hnl : nm.length ≤ 100000) (hk : k ≤ 255) :
    Calls Try.prog 15 #[.agg #[.slice A1 nm.length c1, .int .u8 k, .slice A2 n2 c2]] w fun e w' => e = .returned (.agg #[.string (strOfNums (nameS nm)), .int .u8 ((k % 6 : Nat) : Int), .slice A2 n2 c2]) ∧ Ext w w' := by
  have htm : Int.tmod (k : Int) 6 = ((k % 6 : Nat) : Int) := by rw [Int.tmod_eq_emod_of_nonneg (by omega)]; rfl
  have hx1 : Ext w (w.alloc (.cells #[.slice A1 nm.length c1, .int .u8 k, .slice A2 n2 c2] 24)) := (Below.refl _ _).alloc (Nat.le_refl _) _
  have hcv : ∀ w', Ext w w' → (convert 22 9 (.slice A1 nm.length c1)).run Try.prog w' = .ok (.string (strOfNums nm)) w' := fun w' he => (he.reads hr).string (P := Try.prog) Try.underlying22 Try.underlying5 Try.underlying9 c1
  obtain ⟨K6, hK6⟩ : ∃ K6, k % 6 = K6 := ⟨_, rfl⟩
  rw [hK6] at htm ⊢
  clear hK6
  clear hx1
  have hx2 : Ext w ((w.alloc (.cells #[.slice A1 nm.length c1, .int .u8 k, .slice A2 n2 c2] 24)).alloc (.cells #[.string ⟨#[]⟩, .int .u8 0, .slice none 0 0] 30)) := ((Below.refl _ _).alloc (Nat.le_refl _) _).alloc (by simp) _
  have hcv2 := hcv _ hx2
  have hsz : (strOfNums (110 :: nm)).size = nm.length + 1 := by rw [size_str]; rfl
  have hsz1 : (strOfNums nm).size = nm.length := size_str nm
  have hstr := str_n nm
  clear hcv hr
  by_cases hl : 255 < nm.length + 1
  · have hq : (strOfNums (110 :: nm)).extract 0 255 = strOfNums (nameS nm) := str_take _ _ (by simp only [List.length_cons]; omega)
    have hd : decide ((255 : Int) < (nm.length : Int) + 1) = true := by simp; omega
    go_enter Try.func15, Try.ntmps15
    go_wp2_with fail
    refine bodyPost_ret (v := .agg #[.string (strOfNums (nameS nm)), .int .u8 K6, .slice A2 n2 c2]) (by simp [results, Try.results15, go_sem]) rfl ⟨rfl, ?_⟩
    exact (((Below.refl _ _).alloc (Nat.le_refl _) _).alloc (by simp) _).alloc (by simp; omega) _
  · have hq : nameS nm = 110 :: nm := List.take_of_length_le (by simp only [List.length_cons]; omega)
    have hd : decide ((255 : Int) < (nm.length : Int) + 1) = false := by simp; omega
    rw [hq]
    go_enter Try.func15, Try.ntmps15
    go_wp2_with fail
    refine bodyPost_ret (v := .agg #[.string (strOfNums (110 :: nm)), .int .u8 K6, .slice A2 n2 c2]) (by simp [results, Try.results15, go_sem]) rfl ⟨rfl, ?_⟩
    exact (((Below.refl _ _).alloc (Nat.le_refl _) _).alloc (by simp) _).alloc (by simp; omega) _

/-! ### Take -/
/-- What Take tells: an error, or a name, a kind, a payload. -/
def takeF (xs : List Int) : Except Int (List Int × Nat × List Int) :=
  let b := Wire.rbyte xs ⟨0, 0⟩
  let m := Wire.rbytes xs b.2 b.1
  let k := Wire.rbyte xs m.2
  let n := Wire.rword xs k.2
  let z := Wire.rword xs n.2
  if z.2.err ≠ 0 then .error z.2.err
  else if rightB (xs.take (n.2.at_ + 4)) = false then .error 10
  else if xs.length ≠ n.2.at_ + 4 + (n.1 + 4) then .error 6
  else if rightB (xs.drop (n.2.at_ + 4)) = false then .error 10
  else if checkF m.1.length k.1.toNat n.1 ≠ 0 then .error (checkF m.1.length k.1.toNat n.1)
  else .ok (m.1, k.1.toNat, (xs.drop (n.2.at_ + 4)).take n.1)
def Told (w0 : World) (t : Except Int (List Int × Nat × List Int)) (e : Ending) (w : World) : Prop :=
  Ext w0 w ∧ match t with
  | .error x => e = .returned (.tuple #[.agg #[.string ⟨#[]⟩, .int .u8 0, .slice none 0 0], .int .i64 x])
  | .ok (nm, k, pay) => ∃ A' c', e = .returned (.tuple #[.agg #[.string (strOfNums nm), .int .u8 k, .slice A' pay.length c'], .int .i64 0]) ∧ Reads w .u8 A' pay
theorem rword_ok {xs : List Int} {s : Wire.RS} (h : (Wire.rword xs s).2.err = 0) : s.err = 0 ∧ (Wire.rword xs s).2.at_ = s.at_ + 4 ∧ s.at_ + 4 ≤ xs.length := by
  unfold Wire.rword at *
  by_cases hq : Wire.rleft xs s < 4
  · rw [if_pos hq] at h
    exact absurd h (Wire.rfail_err (by decide))
  · rw [if_neg hq] at h ⊢
    refine ⟨h, rfl, ?_⟩
    unfold Wire.rleft at hq
    split at hq <;> omega
theorem ext_set {w0 w : World} {p i : Nat} (h : Ext w0 w) (hp : w0.heap.size ≤ p) (v : Value) : Ext w0 (w.setCell ⟨p, i, none⟩ v) :=
  Below.trans h (((Keep.refl (fun k => k = p) w).setCell (p := ⟨p, i, none⟩) (fun _ => rfl) v).below h.size (fun k hk e => by omega))
set_option maxHeartbeats 16000000 in
set_option maxRecDepth 20000 in
theorem take_c (A : Option Addr) (c : Nat) (xs : List Int) (w : World) (hr : Reads w .u8 A xs) (hb : IsBytes xs) (hl : xs.length ≤ 100000) (hc : xs.length ≤ c) (hc2 : c ≤ 9223372036854775807) :
    Calls Try.prog 17 #[.slice A xs.length c] w fun e w' => Told w (takeF xs) e w' := by
  have HR := Lib.hid hr
  have HB := Lib.hid hb
  have n1 := Sep.alloc Lcl.emp (w := w) (S := fun _ => False) (fun _ x => x) #[.string ⟨#[]⟩, .int .u8 0, .slice none 0 0] 30
  have H1 := Lib.hid (Sep.emp_left n1.1.left_of_emp)
  have ST1 := Lib.hid n1.2
  have HNE : RowKit.Hid (∀ a, A = some a → xs.length ≠ 0 → a.block < w.heap.size) := Lib.hid (fun a e hl => by
    obtain ⟨b, o, e2, hb, _⟩ := hr 0 (by omega)
    rw [e] at e2; cases e2; exact hb)
  clear hr hb n1
  go_enter Try.func17, Try.ntmps17
  go_wp2_with fail
  generalize w.alloc (.cells #[.string ⟨#[]⟩, .int .u8 0, .slice none 0 0] 30) = w1 at H1 ST1 ⊢
  refine ((Wire.read_tri A c xs hc hc2).frame (Lcl.blk w.heap.size #[.string ⟨#[]⟩, .int .u8 0, .slice none 0 0] 30) w1 _ H1.out).mono ?_
  rintro e w2 ⟨S2, h2, st2⟩
  obtain ⟨p, h2⟩ := Sep.some h2
  obtain ⟨rfl, h3⟩ := Sep.fact h2
  have hpw : w.heap.size ≤ p := by
    obtain ⟨T, hT, hsub⟩ := h3.left
    rcases (ST1.out.trans st2).fresh p (hsub p ((hT.2.2 p).2 rfl)) with q | q
    · exact absurd q id
    · exact q
  have HPN : RowKit.Hid (∀ a, A = some a → xs.length ≠ 0 → a.block ≠ p) := Lib.hid (fun a e hl => by
    have h1 := HNE.out a e hl
    omega)
  have H2 := Lib.hid h3
  have ST2 := Lib.hid (ST1.out.trans st2)
  have HR2 := Lib.hid (Ext.reads (Wire.belowF ST2.out) HR.out)
  clear h2 h3 st2 H1 ST1 HNE
  go_wp2_with fail
  refine (Wire.byte_b (Lcl.blk _ _ _) H2.out HR2.out).mono ?_
  rintro e w3 ⟨S3, ⟨rfl, h3⟩, st3⟩
  have hbr := Wire.rbyte_range HB.out ⟨0, 0⟩
  obtain ⟨b0, s1, hb0⟩ : ∃ b0 s1, Wire.rbyte xs ⟨0, 0⟩ = (b0, s1) := ⟨_, _, rfl⟩
  rw [hb0] at h3 hbr ⊢
  have H3 := Lib.hid h3.comm
  have ST3 := Lib.hid (ST2.out.trans st3)
  have HR3 := Lib.hid (Ext.reads (Wire.belowF ST3.out) HR.out)
  clear h3 st3 H2 ST2 HR2
  simp only at hbr ⊢
  go_wp2_with fail
  refine (Wire.bytes_b (Lcl.blk _ _ _) b0 (by omega) H3.out HR3.out HPN.out).mono ?_
  rintro e w4 ⟨S4, A4, ⟨rfl, h4, hrd4⟩, st4⟩
  obtain ⟨nm, s2, hnm⟩ : ∃ nm s2, Wire.rbytes xs s1 b0 = (nm, s2) := ⟨_, _, rfl⟩
  rw [hnm] at h4 hrd4 ⊢
  simp only at h4 hrd4 ⊢
  have H4 := Lib.hid h4.comm
  have ST4 := Lib.hid (ST3.out.trans st4)
  have HR4 := Lib.hid (Ext.reads (Wire.belowF ST4.out) HR.out)
  have hcv4 : (convert 22 9 (.slice A4 nm.length nm.length)).run Try.prog w4 = .ok (.string (strOfNums nm)) w4 := hrd4.string (P := Try.prog) Try.underlying22 Try.underlying5 Try.underlying9 nm.length
  clear h4 st4 H3 ST3 HR3 hrd4
  go_wp2_with fail
  have n5 := Sep.alloc ((Wire.loc_rd p A c xs s2).sep (Lcl.blk _ _ _)) H4.out #[.string (strOfNums nm), .int .u8 0, .slice none 0 0] 30
  have H5 := Lib.hid n5.1.second
  have ST5 := Lib.hid (ST4.out.trans n5.2)
  have HR5 := Lib.hid (Ext.reads (Wire.belowF ST5.out) HR.out)
  clear n5 H4 ST4 HR4 hcv4
  generalize w4.alloc (.cells #[.string (strOfNums nm), .int .u8 0, .slice none 0 0] 30) = w5 at H5 ST5 HR5 ⊢
  generalize hS5 : (fun k => k = w4.heap.size ∨ S4 k) = S5 at H5 ST5
  generalize w4.heap.size = p5 at H5 ⊢
  clear hS5
  refine (Wire.byte_b ((Lcl.blk _ _ _).sep (Lcl.blk _ _ _)) H5.out HR5.out).mono ?_
  rintro e w6 ⟨S6, ⟨rfl, h6⟩, st6⟩
  have hkr := Wire.rbyte_range HB.out s2
  obtain ⟨kd, s3, hkd⟩ : ∃ kd s3, Wire.rbyte xs s2 = (kd, s3) := ⟨_, _, rfl⟩
  rw [hkd] at h6 hkr ⊢
  simp only at h6 hkr ⊢
  obtain ⟨kn, rfl⟩ : ∃ kn : Nat, kd = (kn : Int) := ⟨kd.toNat, by omega⟩
  have h6a := h6.assoc
  obtain ⟨Sb, Sr, hb5, hrest, hdj, hiff⟩ := h6a
  have c51 : w6.cell? ⟨p5, 1, none⟩ = some (.int .u8 0) := hb5.cell 1
  have f51 := hb5.free 1
  have hset := Blk.set hb5 1 (.int .u8 kn)
  have hstp := Sep.step ((Lcl.blk _ _ _).sep (Wire.loc_rd p A c xs s3)) (A' := Blk p5 #[.string (strOfNums nm), .int .u8 kn, .slice none 0 0] 30) hrest hdj hset.1 hset.2
  have hSS : S6 = fun k => Sb k ∨ Sr k := funext fun k => propext (hiff k)
  rw [hSS] at st6
  have H7 := Lib.hid (show Sep (Wire.Rd p A c xs s3) (Sep (Blk p5 #[.string (strOfNums nm), .int .u8 kn, .slice none 0 0] 30) (Blk w.heap.size #[.string ⟨#[]⟩, .int .u8 0, .slice none 0 0] 30)) _ _ from hstp.1.assoc'.comm)
  have ST7 := Lib.hid ((ST5.out.trans st6).trans hstp.2)
  have HR7 := Lib.hid (Ext.reads (Wire.belowF ST7.out) HR.out)
  clear h6 hb5 hrest hdj hset hstp st6 hiff hSS H5 ST5 HR5
  go_wp2_with fail
  generalize w6.setCell ⟨p5, 1, none⟩ (.int .u8 kn) = w7 at H7 ST7 HR7 ⊢
  generalize hS7 : (fun k => Sb k ∨ Sr k) = S7 at H7 ST7
  clear hS7 c51 f51
  refine (Wire.word_b ((Lcl.blk _ _ _).sep (Lcl.blk _ _ _)) HB.out H7.out HR7.out HPN.out).mono ?_
  rintro e w8 ⟨S8, ⟨rfl, h8⟩, st8⟩
  have hnr := Wire.rword_le HB.out s3
  obtain ⟨n, s4, hn⟩ : ∃ n s4, Wire.rword xs s3 = (n, s4) := ⟨_, _, rfl⟩
  rw [hn] at h8 hnr ⊢
  simp only at h8 hnr ⊢
  have H8 := Lib.hid h8.comm
  have ST8 := Lib.hid (ST7.out.trans st8)
  have HR8 := Lib.hid (Ext.reads (Wire.belowF ST8.out) HR.out)
  obtain ⟨Td8, hrd8, _⟩ := Sep.left h8.comm
  have HRD8 := Lib.hid hrd8
  clear h8 st8 H7 ST7 HR7 hrd8
  go_wp2_with fail
  refine (Wire.at_is p A c xs s4 w8 _ HRD8.out).mono ?_
  rintro e w9 ⟨rfl, rfl⟩
  go_wp2_with fail
  refine (Wire.word_b ((Lcl.blk _ _ _).sep (Lcl.blk _ _ _)) HB.out H8.out HR8.out HPN.out).mono ?_
  rintro e w9 ⟨S9, ⟨rfl, h9⟩, st9⟩
  obtain ⟨z, s5, hz⟩ : ∃ z s5, Wire.rword xs s4 = (z, s5) := ⟨_, _, rfl⟩
  rw [hz] at h9 ⊢
  simp only at h9 ⊢
  have ha4 := HRD8.out.1
  have H9 := Lib.hid h9
  have ST9 := Lib.hid (ST8.out.trans st9)
  have HR9 := Lib.hid (Ext.reads (Wire.belowF ST9.out) HR.out)
  obtain ⟨Td9, hrd9, _⟩ := Sep.left h9.comm
  have HRD9 := Lib.hid hrd9
  clear h9 st9 H8 ST8 HR8 HRD8 hrd9
  have HX9 := Lib.hid (show Ext w w9 from Wire.belowF ST9.out)
  have HTK : RowKit.Hid (takeF xs = if s5.err ≠ 0 then .error s5.err
    else if rightB (xs.take (s4.at_ + 4)) = false then .error 10
    else if xs.length ≠ s4.at_ + 4 + (n + 4) then .error 6
    else if rightB (xs.drop (s4.at_ + 4)) = false then .error 10
    else if checkF nm.length kn n ≠ 0 then .error (checkF nm.length kn n)
    else .ok (nm, kn, (xs.drop (s4.at_ + 4)).take n)) := Lib.hid (by
      unfold takeF
      simp only [hb0, hnm, hkd, hn, hz, Int.toNat_natCast])
  have h9e := HRD9.out.1
  obtain ⟨Sy, hby, _⟩ := H9.out.left
  obtain ⟨Sx, hbx, _⟩ := hby.left
  obtain ⟨Sw, hbz, _⟩ := hby.comm.left
  have cz0 : w9.cell? ⟨w.heap.size, 0, none⟩ = some (.string ⟨#[]⟩) := hbz.cell 0
  have cz1 : w9.cell? ⟨w.heap.size, 1, none⟩ = some (.int .u8 0) := hbz.cell 1
  have cz2 : w9.cell? ⟨w.heap.size, 2, none⟩ = some (.slice none 0 0) := hbz.cell 2
  have fz0 := hbz.free 0
  have fz1 := hbz.free 1
  have fz2 := hbz.free 2
  clear hby hbx hbz
  have HLE : RowKit.Hid (∀ wz, Ext w wz → ∀ a b c, Ext w (((wz.setCell ⟨w.heap.size, 0, none⟩ a).setCell ⟨w.heap.size, 1, none⟩ b).setCell ⟨w.heap.size, 2, none⟩ c)) := Lib.hid (fun wz h a b c => ext_set (ext_set (ext_set h (Nat.le_refl _) a) (Nat.le_refl _) b) (Nat.le_refl _) c)
  by_cases he : s5.err = 0
  · have hd0 : (s5.err != 0) = false := by simpa using he
    have hd1 : (s5.err == 0) = true := by simpa using he
    have hrw := rword_ok (xs := xs) (s := s4) (by rw [hz]; exact he)
    have hlen4 := hrw.2.2
    obtain ⟨bb, oo, rfl, _, _⟩ := HR9.out 0 (by omega)
    have HTK2 := Lib.hid (HTK.out)
    rw [if_neg (show ¬ s5.err ≠ 0 from fun q => q he)] at HTK2
    have HRT := Crc.right_calls w9 (some ⟨bb, oo, none⟩) c (xs.take (s4.at_ + 4)) (HR9.out.take _) (Crc.take_bytes HB.out _) (by rw [List.length_take]; omega) (by rw [List.length_take]; omega)
    rw [List.length_take, Nat.min_eq_left hlen4] at HRT
    have hsc : s4.at_ + 4 ≤ c := by omega
    obtain ⟨r1, hr1⟩ : ∃ r1, rightB (xs.take (s4.at_ + 4)) = r1 := ⟨_, rfl⟩
    rw [hr1] at HRT HTK2
    have HRT1 := Lib.hid HRT
    clear HRT hr1 HTK hrw
    go_wp2_with fail
    refine (Wire.err_is p (some ⟨bb, oo, none⟩) c xs s5 w9 _ HRD9.out).mono ?_
    rintro e wa ⟨rfl, rfl⟩
    rw [he]
    go_wp2_with fail
    refine HRT1.out.mono ?_
    rintro e w10 ⟨rfl, hx10⟩
    have X10 := Lib.hid (show Ext w9 w10 from hx10)
    have cy0 := hx10.cell (p := ⟨w.heap.size, 0, none⟩) (World.block_lt_of_cell? _ _ cz0) |>.trans cz0
    have cy1 := hx10.cell (p := ⟨w.heap.size, 1, none⟩) (World.block_lt_of_cell? _ _ cz1) |>.trans cz1
    have cy2 := hx10.cell (p := ⟨w.heap.size, 2, none⟩) (World.block_lt_of_cell? _ _ cz2) |>.trans cz2
    have H10 := Lib.hid (Ext.keep (((Lcl.blk _ _ _).sep (Lcl.blk _ _ _)).sep (Wire.loc_rd _ _ _ _ _)) X10.out H9.out)
    have HX10 := Lib.hid (Ext.trans _ _ _ HX9.out X10.out)
    obtain ⟨Sy, hby, _⟩ := H10.out.left
    obtain ⟨Sw, hbz, _⟩ := hby.comm.left
    have fy0 := hbz.free 0
    have fy1 := hbz.free 1
    have fy2 := hbz.free 2
    clear hby hbz cz0 cz1 cz2 fz0 fz1 fz2 hx10 HRT1
    cases r1 with
    | false =>
      have HT : RowKit.Hid (takeF xs = .error 10) := Lib.hid (by rw [HTK2.out, if_pos rfl])
      go_wp2_with fail
      refine bodyPost_ret (v := .tuple #[.agg #[.string ⟨#[]⟩, .int .u8 0, .slice none 0 0], .int .i64 10]) (by simp [results, Try.results17, go_sem, cy0, cy1, cy2]) rfl ⟨HLE.out _ HX10.out _ _ _, ?_⟩
      rw [HT.out]
    | true =>
      have HTK3 := Lib.hid HTK2.out
      rw [if_neg (show ¬ true = false by decide)] at HTK3
      by_cases hsz : xs.length = s4.at_ + 4 + (n + 4)
      · have hq1 : ((xs.length : Int) - (s4.at_ : Int) - 4 == (n : Int) + 4) = true := by simp; omega
        have hq2 : ((xs.length : Int) - (s4.at_ : Int) - 4 != (n : Int) + 4) = false := by simp; omega
        have HTK4 := Lib.hid HTK3.out
        rw [if_neg (show ¬ xs.length ≠ s4.at_ + 4 + (n + 4) from fun q => q hsz)] at HTK4
        have hsc1 : ¬ s4.at_ + 4 = c := by omega
        have HR10 := Lib.hid (HX10.out.reads HR.out)
        have hrd2 := Wire.reads_part HR10.out (s4.at_ + 4) (xs.length - (s4.at_ + 4))
        have hdl : (xs.drop (s4.at_ + 4)).length = xs.length - (s4.at_ + 4) := List.length_drop
        rw [List.take_of_length_le (by rw [hdl]; exact Nat.le_refl _)] at hrd2
        have HRT := Crc.right_calls w10 (some ⟨bb, oo + (s4.at_ + 4), none⟩) (c - (s4.at_ + 4)) (xs.drop (s4.at_ + 4)) hrd2 (fun x hx => HB.out x (List.mem_of_mem_drop hx)) (by rw [hdl]; omega) (by rw [hdl]; omega)
        rw [hdl] at HRT
        obtain ⟨r2, hr2⟩ : ∃ r2, rightB (xs.drop (s4.at_ + 4)) = r2 := ⟨_, rfl⟩
        rw [hr2] at HRT HTK4
        have HRT2 := Lib.hid HRT
        have HSZ := Lib.hid hsz
        have hsn1 : s4.at_ + 4 + n ≤ xs.length := by omega
        have hsn2 : s4.at_ + 4 + n ≤ c := by omega
        clear HRT hr2 hrd2 HTK3 HTK2 hdl hsz
        go_wp2_with fail
        refine HRT2.out.mono ?_
        rintro e w11 ⟨rfl, hx11⟩
        have X11 := Lib.hid (show Ext w10 w11 from hx11)
        have cx0 := Ext.cell X11.out cy0
        have cx1 := Ext.cell X11.out cy1
        have cx2 := Ext.cell X11.out cy2
        have H11 := Lib.hid (Ext.keep (((Lcl.blk _ _ _).sep (Lcl.blk _ _ _)).sep (Wire.loc_rd _ _ _ _ _)) X11.out H10.out)
        have HX11 := Lib.hid (Ext.trans _ _ _ HX10.out X11.out)
        obtain ⟨Sy, hby, _⟩ := H11.out.left
        obtain ⟨Sw, hbz, _⟩ := hby.comm.left
        have fx0 := hbz.free 0
        have fx1 := hbz.free 1
        have fx2 := hbz.free 2
        have ST11 := Lib.hid (ST9.out.trans (show Step S9 S9 w9 w11 from ⟨Keep.of_below (Ext.trans _ _ _ X10.out X11.out), fun _ h => .inl h⟩))
        clear hby hbz cy0 cy1 cy2 fy0 fy1 fy2 hx11 HRT2 H10
        cases r2 with
        | false =>
          have HT : RowKit.Hid (takeF xs = .error 10) := Lib.hid (by rw [HTK4.out, if_pos rfl])
          go_wp2_with fail
          refine bodyPost_ret (v := .tuple #[.agg #[.string ⟨#[]⟩, .int .u8 0, .slice none 0 0], .int .i64 10]) (by simp [results, Try.results17, go_sem, cx0, cx1, cx2]) rfl ⟨HLE.out _ HX11.out _ _ _, ?_⟩
          rw [HT.out]
        | true =>
          have HTK5 := Lib.hid HTK4.out
          rw [if_neg (show ¬ true = false by decide)] at HTK5
          have n12 := sepEmpty (((Lcl.blk _ _ _).sep (Lcl.blk _ _ _)).sep (Wire.loc_rd _ _ _ _ _)) H11.out 5 .u8
          have HE := Lib.hid n12.1
          have STE := Lib.hid (ST11.out.trans n12.2)
          have HR11 := Lib.hid (Ext.reads (Wire.belowF STE.out) HR.out)
          have hrp := Wire.reads_part HR11.out (s4.at_ + 4) n
          have hpl : ((xs.drop (s4.at_ + 4)).take n).length = n := by rw [List.length_take, List.length_drop]; omega
          obtain ⟨PY, hPY⟩ : ∃ PY, (xs.drop (s4.at_ + 4)).take n = PY := ⟨_, rfl⟩
          rw [hPY] at hrp hpl HTK5
          have HRP := Lib.hid hrp
          have HPL := Lib.hid (show n = PY.length from hpl.symm)
          clear n12 hrp hPY hpl H11 ST11
          go_wp2_with (at_builtin; go_loud (refine append_row _ rfl _ _ 22 rfl 5 .u8 1 Try.underlying22 Crc.info_u8 (by decide) _ [] PY (some ⟨bb, oo + (s4.at_ + 4), none⟩) (s4.at_ + 4 + n - (s4.at_ + 4)) (c - (s4.at_ + 4)) rfl rfl (by have := HPL.out; omega) (((Lcl.blk _ _ _).sep (Lcl.blk _ _ _)).sep (Wire.loc_rd _ _ _ _ _)) HE.out HRP.out (by have := HPL.out; simp; omega) ?_); intro A' c' w' S' h' st'; rw [show [].length + (s4.at_ + 4 + n - (s4.at_ + 4)) = n by simp only [List.length_nil]; omega, List.nil_append] at h'; obtain ⟨Sb', Sr', hb5, hrest, hdj, hiff⟩ := (h'.imp_right (fun _ h => h.assoc)).second; have c50 : w'.cell? ⟨p5, 0, none⟩ = some (.string (strOfNums nm)) := hb5.cell 0; have c51 : w'.cell? ⟨p5, 1, none⟩ = some (.int .u8 kn) := hb5.cell 1; have c52 : w'.cell? ⟨p5, 2, none⟩ = some (.slice none 0 0) := hb5.cell 2; have f52 := hb5.free 2; have HB5 := Lib.hid hb5; have HRE := Lib.hid hrest; have HDJ := Lib.hid hdj; have HIF := Lib.hid hiff; have ST' := Lib.hid (STE.out.trans st'); clear h' st' hb5 hrest hdj hiff)
          have hset := Blk.set HB5.out 2 (.slice A' n c')
          have hstp := Sep.step ((Lcl.row _ _ _ _).sep ((Lcl.blk _ _ _).sep (Wire.loc_rd p (some ⟨bb, oo, none⟩) c xs s5))) (A' := Blk p5 #[.string (strOfNums nm), .int .u8 kn, .slice A' n c'] 30) HRE.out HDJ.out hset.1 hset.2
          have hSS : S' = fun k => Sb' k ∨ Sr' k := funext fun k => propext (HIF.out k)
          rw [hSS] at ST'
          have HX12 := Lib.hid (show Ext w (w'.setCell ⟨p5, 2, none⟩ (.slice A' n c')) from Wire.belowF (ST'.out.trans hstp.2))
          obtain ⟨Q1, Q2, q5, q2, _, _⟩ := hstp.1
          obtain ⟨Q3, Q4, qr, qz, qd, _⟩ := q2
          obtain ⟨Q5, Q6, qb, _, _, qiff⟩ := qz
          have HRW := Lib.hid qr
          have HQB := Lib.hid qb
          have HNB : RowKit.Hid (∀ a, A' = some a → a.block ≠ w.heap.size) := Lib.hid (fun a e h => by
            subst e
            obtain ⟨Ax, cx, ex, _, _, hS⟩ := qr.reads
            injection ex with e1 e2 e3
            exact qd _ (hS a e1.symm) ((qiff _).2 (.inl ((qb.2 _).2 h))))
          have HQ5 := Lib.hid q5
          clear q5 qr qb qd qiff hset hstp hSS HB5 HRE HDJ HIF cx0 cx1 cx2 fx0 fx1 fx2
          go_wp2_with fail
          generalize w'.setCell ⟨p5, 2, none⟩ (.slice A' n c') = w12 at HX12 HRW HQB HQ5 ⊢
          clear c50 c51 c52 f52
          refine (check_c (strOfNums nm) kn n c' A' w12).mono ?_
          rintro e w13 ⟨rfl, hx13⟩
          rw [Crc.size_str]
          have X13 := Lib.hid hx13
          have HX13 := Lib.hid (Ext.trans _ _ _ HX12.out hx13)
          have HQB3 := Lib.hid (Ext.keep (Lcl.blk _ _ _) hx13 HQB.out)
          have HQ53 := Lib.hid (Ext.keep (Lcl.blk _ _ _) hx13 HQ5.out)
          have HRW3 := Lib.hid (readsAny (Ext.keep (Lcl.row _ _ _ _) hx13 HRW.out))
          have cv0 : w13.cell? ⟨w.heap.size, 0, none⟩ = some (.string ⟨#[]⟩) := HQB3.out.cell 0
          have cv1 : w13.cell? ⟨w.heap.size, 1, none⟩ = some (.int .u8 0) := HQB3.out.cell 1
          have cv2 : w13.cell? ⟨w.heap.size, 2, none⟩ = some (.slice none 0 0) := HQB3.out.cell 2
          have fv0 := HQB3.out.free 0
          have fv1 := HQB3.out.free 1
          have fv2 := HQB3.out.free 2
          have c50 : w13.cell? ⟨p5, 0, none⟩ = some (.string (strOfNums nm)) := HQ53.out.cell 0
          have c51 : w13.cell? ⟨p5, 1, none⟩ = some (.int .u8 kn) := HQ53.out.cell 1
          have c52 : w13.cell? ⟨p5, 2, none⟩ = some (.slice A' n c') := HQ53.out.cell 2
          clear hx13 HX12 HRW HQB HQ5
          obtain ⟨q, hq⟩ : ∃ q, checkF nm.length kn n = q := ⟨_, rfl⟩
          rw [hq] at HTK5 ⊢
          clear hq
          by_cases hq0 : q = 0
          · subst hq0
            have HT : RowKit.Hid (takeF xs = .ok (nm, kn, PY)) := Lib.hid (by rw [HTK5.out, if_neg (fun h => h rfl)])
            go_wp2_with fail
            refine bodyPost_ret (v := .tuple #[.agg #[.string (strOfNums nm), .int .u8 kn, .slice A' n c'], .int .i64 0]) (by simp [results, Try.results17, go_sem, cv0, cv1, cv2]) rfl ⟨HLE.out _ HX13.out _ _ _, ?_⟩
            rw [HT.out]
            refine ⟨A', c', by rw [← HPL.out], ?_⟩
            exact HRW3.out.keep (((Keep.refl (fun k => k = w.heap.size) w13).setCell (p := ⟨w.heap.size, 0, none⟩) (fun _ => rfl) _).setCell (p := ⟨w.heap.size, 1, none⟩) (fun _ => rfl) _ |>.setCell (p := ⟨w.heap.size, 2, none⟩) (fun _ => rfl) _) (fun a e => HNB.out a e)
          · have hq1' : (q == 0) = false := by rw [beq_eq_false_iff_ne]; exact hq0
            have hq2' : (q != 0) = true := by simpa using hq0
            have HT : RowKit.Hid (takeF xs = .error q) := Lib.hid (by rw [HTK5.out, if_pos hq0])
            go_wp2_with fail
            refine bodyPost_ret (v := .tuple #[.agg #[.string ⟨#[]⟩, .int .u8 0, .slice none 0 0], .int .i64 q]) (by simp [results, Try.results17, go_sem, cv0, cv1, cv2]) rfl ⟨HLE.out _ HX13.out _ _ _, ?_⟩
            rw [HT.out]
      · have hq1 : ((xs.length : Int) - (s4.at_ : Int) - 4 == (n : Int) + 4) = false := by rw [beq_eq_false_iff_ne]; omega
        have hq2 : ((xs.length : Int) - (s4.at_ : Int) - 4 != (n : Int) + 4) = true := by simp; omega
        have HT : RowKit.Hid (takeF xs = .error 6) := Lib.hid (by rw [HTK3.out, if_pos hsz])
        go_wp2_with fail
        refine bodyPost_ret (v := .tuple #[.agg #[.string ⟨#[]⟩, .int .u8 0, .slice none 0 0], .int .i64 6]) (by simp [results, Try.results17, go_sem, cy0, cy1, cy2]) rfl ⟨HLE.out _ HX10.out _ _ _, ?_⟩
        rw [HT.out]
  · have hd0 : (s5.err != 0) = true := by simpa using he
    have hd1 : (s5.err == 0) = false := by rw [beq_eq_false_iff_ne]; exact he
    have HT : RowKit.Hid (takeF xs = .error s5.err) := Lib.hid (by rw [HTK.out, if_pos he])
    go_wp2_with fail
    refine (Wire.err_is p A c xs s5 w9 _ HRD9.out).mono ?_
    rintro e wa ⟨rfl, rfl⟩
    go_wp2_with fail
    refine (Wire.err_is p A c xs s5 w9 _ HRD9.out).mono ?_
    rintro e wa ⟨rfl, rfl⟩
    go_wp2_with fail
    refine bodyPost_ret (v := .tuple #[.agg #[.string ⟨#[]⟩, .int .u8 0, .slice none 0 0], .int .i64 s5.err]) (by simp [results, Try.results17, go_sem, cz0, cz1, cz2]) rfl ⟨HLE.out _ HX9.out _ _ _, ?_⟩
    rw [HT.out]

/-! ### what Put made is taken -/
theorem wd_word4 {n : Nat} (h : n ≤ 4294967295) : wd n = Wire.word4 n := by
  unfold Wire.word4 wd
  simp only [List.cons.injEq, and_true, true_and]
  omega
theorem checkF_ok {n k m : Nat} : checkF n k m = 0 ↔ 1 ≤ n ∧ n ≤ 255 ∧ k < 6 ∧ m ≤ 1048576 := by
  unfold checkF
  split
  · simp; omega
  · split
    · simp; omega
    · split
      · simp; omega
      · simp; omega
theorem take_put {nm pay : List Int} {k : Nat} (hn : IsBytes nm) (hp : IsBytes pay) (hc : checkF nm.length k pay.length = 0) : takeF (frameB nm k pay) = .ok (nm, k, pay) := by
  obtain ⟨h1, h2, h3, h4⟩ := checkF_ok.1 hc
  obtain ⟨SH, hSH⟩ : ∃ SH, (sum (headB nm k pay.length)).toNat = SH := ⟨_, rfl⟩
  have hSb : SH ≤ 4294967295 := by rw [← hSH]; have := (sum (headB nm k pay.length)).isLt; omega
  have hform : frameB nm k pay = (nm.length : Int) :: (nm ++ ((k : Int) :: (Wire.word4 pay.length ++ (Wire.word4 SH ++ sumd pay)))) := by
    unfold frameB
    rw [show sumd (headB nm k pay.length) = headB nm k pay.length ++ wd SH by unfold sumd; rw [hSH], wd_word4 hSb]
    unfold headB
    rw [wd_word4 (by omega)]
    simp
  have hlen := frame_len nm k pay
  have d1 : (frameB nm k pay).drop 1 = nm ++ ((k : Int) :: (Wire.word4 pay.length ++ (Wire.word4 SH ++ sumd pay))) := by rw [hform]; rfl
  have d2 : (frameB nm k pay).drop (1 + nm.length) = (k : Int) :: (Wire.word4 pay.length ++ (Wire.word4 SH ++ sumd pay)) := by
    rw [← List.drop_drop, d1, List.drop_left]
  have d3 : (frameB nm k pay).drop (1 + nm.length + 1) = Wire.word4 pay.length ++ (Wire.word4 SH ++ sumd pay) := by
    rw [← List.drop_drop, d2]; rfl
  have d4 : (frameB nm k pay).drop (1 + nm.length + 1 + 4) = Wire.word4 SH ++ sumd pay := by
    rw [← List.drop_drop, d3]; rfl
  have d5 : (frameB nm k pay).drop (1 + nm.length + 1 + 4 + 4) = sumd pay := by
    rw [← List.drop_drop, d4]; rfl
  have t5 : (frameB nm k pay).take (1 + nm.length + 1 + 4 + 4) = sumd (headB nm k pay.length) := by
    unfold frameB
    rw [List.take_left']
    rw [sumd_len, head_len]; omega
  have e1 : Wire.rbyte (frameB nm k pay) ⟨0, 0⟩ = ((nm.length : Int), ⟨1, 0⟩) := Wire.rbyte_at (show (frameB nm k pay).drop 0 = _ from hform)
  have e2 : Wire.rbytes (frameB nm k pay) ⟨1, 0⟩ (nm.length : Int) = (nm, ⟨1 + nm.length, 0⟩) := by
    unfold Wire.rbytes
    rw [if_neg]
    · rw [d1, Int.toNat_natCast, List.take_left]
    · have : Wire.rleft (frameB nm k pay) ⟨1, 0⟩ = (frameB nm k pay).length - 1 := by unfold Wire.rleft; rw [if_pos rfl]
      rw [this, hlen]; omega
  have e3 : Wire.rbyte (frameB nm k pay) ⟨1 + nm.length, 0⟩ = ((k : Int), ⟨1 + nm.length + 1, 0⟩) := Wire.rbyte_at d2
  have e4 : Wire.rword (frameB nm k pay) ⟨1 + nm.length + 1, 0⟩ = (pay.length, ⟨1 + nm.length + 1 + 4, 0⟩) := Wire.rword_at d3 (by omega)
  have e5 : Wire.rword (frameB nm k pay) ⟨1 + nm.length + 1 + 4, 0⟩ = (SH, ⟨1 + nm.length + 1 + 4 + 4, 0⟩) := Wire.rword_at d4 hSb
  unfold takeF
  simp only [e1, e2, e3, e4, e5]
  rw [if_neg (fun h => h rfl), t5, d5, if_neg, if_neg, if_neg, if_neg]
  · rw [Int.toNat_natCast]
    unfold sumd
    rw [List.take_left]
  · rw [Int.toNat_natCast]; exact fun h => h hc
  · have := put_right hp
    unfold sumd; rw [this]; decide
  · rw [hlen]; omega
  · have := put_right (head_bytes hn h2 (show k ≤ 255 by omega) pay.length)
    unfold sumd; rw [this]; decide

set_option maxHeartbeats 4000000 in
set_option maxRecDepth 20000 in
theorem awake20 (w : World) : Calls Try.prog 14 #[] w fun e w' => e = .returned (.bool true) ∧ Ext w w' := by
  have hs : (⟨#[97]⟩ : ByteArray) = strOfNums [97] := by decide
  have hb97 : IsBytes [97] := by intro x hx; rw [List.mem_singleton.1 hx]; decide
  go_enter Try.func14, Try.ntmps14
  go_wp2_with fail
  have hfl := frame_len [97] 0 []
  have hfb := frame_bytes hb97 (pay := []) (fun x hx => absurd hx (List.not_mem_nil)) (by decide) (show 0 ≤ 255 by decide)
  have htp := take_put (nm := [97]) (k := 0) (pay := []) hb97 (fun x hx => absurd hx (List.not_mem_nil)) (by decide)
  have hp : Calls Try.prog 16 #[.agg #[.string (strOfNums [97]), .int .u8 0, .slice none 0 0]] w fun e w' => ∃ A' c', e = .returned (.tuple #[.slice A' (frameB [97] 0 []).length c', .int .i64 0]) ∧ Reads w' .u8 A' (frameB [97] 0 []) ∧ (frameB [97] 0 []).length ≤ c' ∧ c' ≤ 9223372036854775807 ∧ Ext w w' :=
    put_c [97] [] 0 0 none w (fun i hi => absurd hi (Nat.not_lt_zero i)) (fun x hx => absurd hx (List.not_mem_nil)) hb97 (by decide) (by decide)
  generalize frameB [97] 0 [] = FB at hfl hfb htp hp
  have hfl2 : FB.length = 15 := hfl
  have HFB := Lib.hid hfb
  have HTP := Lib.hid htp
  have HFL := Lib.hid hfl2
  clear hfl hfl2 hfb htp
  refine hp.mono ?_
  rintro e w1 ⟨A1, c1, rfl, hr1, hc1, hc2, hx1⟩
  have HR1 := Lib.hid hr1
  have X1 := Lib.hid hx1
  clear hp hr1 hx1
  go_wp2_with fail
  refine (take_c A1 c1 FB w1 HR1.out HFB.out (by have := HFL.out; omega) hc1 hc2).mono ?_
  rintro e w2 ⟨hx2, ht⟩
  rw [HTP.out] at ht
  obtain ⟨A2, c2, rfl, _⟩ := ht
  have X2 := Lib.hid (Ext.trans _ _ _ X1.out hx2)
  clear hx2
  rw [HFL.out]
  have hse : ((strOfNums [97]).toList == (strOfNums [97]).toList) = true := str_eq rfl
  have hx3 : Ext w2 (w2.alloc (.cells #[.string (strOfNums [97]), .int .u8 0, .slice A2 0 c2] 30)) := (Below.refl _ _).alloc (Nat.le_refl _) _
  have X3 := Lib.hid (Ext.trans _ _ _ X2.out hx3)
  clear hx3
  go_wp2_with fail
  go_ret
  exact ⟨rfl, X3.out⟩
end Go.Proofs.Ytfpeeilenocaoaa.Frame
