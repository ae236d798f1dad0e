/- P20.1: frames that may not be: why not: at every input, without conditions. -/
import Derived.Test.YtfpeeilenocaoaaFrameS
import Derived.Test.YtfpeeilenocaoaaFrameR
namespace Go.Proofs.Ytfpeeilenocaoaa.Frame
open Go.RowKit Go.Proofs.Ytfpeeilenocaoaa.Own Go.Proofs.Ytfpeeilenocaoaa.Rely Go.Proofs.Ytfpeeilenocaoaa.Crc
attribute [local go_sem] max_ints min_ints

/-- The bytes of a string. -/
def bytesOf (s : ByteArray) : List Int := s.data.toList.map fun b => (b.toNat : Int)
theorem bytesOf_len (s : ByteArray) : (bytesOf s).length = s.size := by simp [bytesOf]
theorem bytesOf_bytes (s : ByteArray) : IsBytes (bytesOf s) := by
  intro x hx
  obtain ⟨b, _, rfl⟩ := List.mem_map.1 hx
  have := b.toNat_lt
  omega
theorem bytesOf_str (s : ByteArray) : strOfNums (bytesOf s) = s := by
  apply ByteArray.ext
  simp only [strOfNums, bytesOf, List.map_map]
  have : ((fun n : Int => UInt8.ofNat n.toNat) ∘ fun b : UInt8 => (b.toNat : Int)) = id := by
    funext b; simp
  rw [this]; simp
set_option maxHeartbeats 16000000 in
set_option maxRecDepth 20000 in
theorem checks_wf (name : ByteArray) (kind : Int) (A1 : Option Addr) (c1 : Nat) (nm : List Int) (k : Int) (A2 : Option Addr) (c2 : Nat) (pay : List Int) (big : Bool) (w : World) (hs : name.size ≤ 140737488351232) (hk : (Lit.int .u8 kind).wf = true) (h1 : ArgI w .u8 A1 c1 nm) (h2 : (Lit.int .u8 k).wf = true) (h3 : ArgI w .u8 A2 c2 pay) :
    Calls Try.prog 5 #[.string name, .int .u8 kind, .agg #[.slice A1 nm.length c1, .int .u8 k, .slice A2 pay.length c2], .bool big] w fun e w' => e = .returned (.bool true) ∧ Below w.heap.size w w' := by
  have hkr := wf_u8 hk
  obtain ⟨kn, rfl⟩ : ∃ kn : Nat, kind = (kn : Int) := ⟨kind.toNat, by omega⟩
  have HR := Lib.hid h3.reads
  have HB := Lib.hid (show IsBytes pay from fun x hx => wf_u8 (h3.rng x hx))
  have hx1 : Ext w (w.alloc (.cells #[.slice A1 nm.length c1, .int .u8 k, .slice A2 pay.length c2] 24)) := (Below.refl _ _).alloc (Nat.le_refl _) _
  have hbk := heap_alloc_new w (.cells #[.slice A1 nm.length c1, .int .u8 k, .slice A2 pay.length c2] 24)
  have HX1 := Lib.hid hx1
  have HBK := Lib.hid hbk
  clear hk h1 h2 h3 hx1 hbk
  go_enter Try.func5, Try.ntmps5
  go_wp2_with fail
  refine (awake20 _).mono ?_
  rintro e w1 ⟨rfl, hx1⟩
  have X1 := Lib.hid (Ext.trans _ _ _ HX1.out hx1)
  have HB1 := Lib.hid ((hx1.block _ (Array.getElem?_eq_some_iff.1 HBK.out).1).trans HBK.out)
  have k2 : w1.cell? ⟨w.heap.size, 2, none⟩ = some (.slice A2 pay.length c2) := Blk.cell (S := fun q => q = w.heap.size) ⟨HB1.out, fun _ => Iff.rfl⟩ 2
  clear hx1 HX1 HBK
  by_cases hl : 600 < name.size
  · have g1 : decide ((600 : Int) < (name.size : Int)) = true := by simp; omega
    go_wp2_with fail
    go_ret
    exact ⟨rfl, X1.out⟩
  have g1 : decide ((600 : Int) < (name.size : Int)) = false := by simp; omega
  by_cases hlp : 100 < pay.length
  · have g2 : decide ((100 : Int) < (pay.length : Int)) = true := by simp; omega
    go_wp2_with fail
    go_ret
    exact ⟨rfl, X1.out⟩
  have g2 : decide ((100 : Int) < (pay.length : Int)) = false := by simp; omega
  have hx2 : Ext w1 (w1.alloc (.cells #[.string name, .int .u8 kn, .slice A2 pay.length c2] 30)) := (Below.refl _ _).alloc (Nat.le_refl _) _
  have hbk2 := heap_alloc_new w1 (.cells #[.string name, .int .u8 kn, .slice A2 pay.length c2] 30)
  have HR2 := Lib.hid (Ext.reads (Ext.trans _ _ _ X1.out hx2) HR.out)
  have X2 := Lib.hid (Ext.trans _ _ _ X1.out hx2)
  cases big with
  | false =>
    have z0 : (w1.alloc (.cells #[.string name, .int .u8 kn, .slice A2 pay.length c2] 30)).cell? ⟨w1.heap.size, 0, none⟩ = some (.string name) := Blk.cell (S := fun q => q = w1.heap.size) ⟨hbk2, fun _ => Iff.rfl⟩ 0
    have z1 : (w1.alloc (.cells #[.string name, .int .u8 kn, .slice A2 pay.length c2] 30)).cell? ⟨w1.heap.size, 1, none⟩ = some (.int .u8 kn) := Blk.cell (S := fun q => q = w1.heap.size) ⟨hbk2, fun _ => Iff.rfl⟩ 1
    have z2 : (w1.alloc (.cells #[.string name, .int .u8 kn, .slice A2 pay.length c2] 30)).cell? ⟨w1.heap.size, 2, none⟩ = some (.slice A2 pay.length c2) := Blk.cell (S := fun q => q = w1.heap.size) ⟨hbk2, fun _ => Iff.rfl⟩ 2
    clear hx2 hbk2
    by_cases n1 : name.size < 1
    · have hck : checkF name.size kn pay.length = 12 := by unfold checkF; rw [if_pos (.inl n1)]
      have d1 : decide ((name.size : Int) < 1) = true := by simp; omega
      go_wp2_with fail
      refine (put_bad name kn pay.length c2 A2 _ (by rw [hck]; decide)).mono ?_
      rintro e w3 ⟨rfl, hx3⟩
      rw [hck]
      have X3 := Lib.hid (Ext.trans _ _ _ X2.out hx3)
      have y0 := hx3.cell z0
      have y1 := hx3.cell z1
      have y2 := hx3.cell z2
      clear hx3
      go_wp2_with fail
      refine (check_c name kn pay.length c2 A2 _).mono ?_
      rintro e w4 ⟨rfl, hx4⟩
      rw [hck]
      have X4 := Lib.hid (Ext.trans _ _ _ X3.out hx4)
      clear hx4
      go_wp2_with fail
      go_ret
      exact ⟨rfl, X4.out⟩
    have d1 : decide ((name.size : Int) < 1) = false := by simp; omega
    by_cases n2 : 255 < name.size
    · have hck : checkF name.size kn pay.length = 12 := by unfold checkF; rw [if_pos (.inr n2)]
      have d2 : decide ((255 : Int) < (name.size : Int)) = true := by simp; omega
      go_wp2_with fail
      refine (put_bad name kn pay.length c2 A2 _ (by rw [hck]; decide)).mono ?_
      rintro e w3 ⟨rfl, hx3⟩
      rw [hck]
      have X3 := Lib.hid (Ext.trans _ _ _ X2.out hx3)
      have y0 := hx3.cell z0
      have y1 := hx3.cell z1
      have y2 := hx3.cell z2
      clear hx3
      go_wp2_with fail
      refine (check_c name kn pay.length c2 A2 _).mono ?_
      rintro e w4 ⟨rfl, hx4⟩
      rw [hck]
      have X4 := Lib.hid (Ext.trans _ _ _ X3.out hx4)
      clear hx4
      go_wp2_with fail
      go_ret
      exact ⟨rfl, X4.out⟩
    have d2 : decide ((255 : Int) < (name.size : Int)) = false := by simp; omega
    by_cases n3 : 5 < kn
    · have hck : checkF name.size kn pay.length = 5 := by unfold checkF; rw [if_neg (fun q => q.elim n1 n2), if_pos (by omega)]
      have d3 : decide ((5 : Int) < (kn : Int)) = true := by simp; omega
      go_wp2_with fail
      refine (put_bad name kn pay.length c2 A2 _ (by rw [hck]; decide)).mono ?_
      rintro e w3 ⟨rfl, hx3⟩
      rw [hck]
      have X3 := Lib.hid (Ext.trans _ _ _ X2.out hx3)
      have y0 := hx3.cell z0
      have y1 := hx3.cell z1
      have y2 := hx3.cell z2
      clear hx3
      go_wp2_with fail
      refine (check_c name kn pay.length c2 A2 _).mono ?_
      rintro e w4 ⟨rfl, hx4⟩
      rw [hck]
      have X4 := Lib.hid (Ext.trans _ _ _ X3.out hx4)
      clear hx4
      go_wp2_with fail
      go_ret
      exact ⟨rfl, X4.out⟩
    have d3 : decide ((5 : Int) < (kn : Int)) = false := by simp; omega
    have hck : checkF name.size kn pay.length = 0 := by unfold checkF; rw [if_neg (fun q => q.elim n1 n2), if_neg (by omega), if_neg (by omega)]
    obtain ⟨nb, hnb⟩ : ∃ nb, bytesOf name = nb := ⟨_, rfl⟩
    have hnm : strOfNums nb = name := by rw [← hnb]; exact bytesOf_str name
    have hnl : nb.length = name.size := by rw [← hnb]; exact bytesOf_len name
    have HNB := Lib.hid (show IsBytes nb by rw [← hnb]; exact bytesOf_bytes name)
    have hck2 : checkF nb.length kn pay.length = 0 := by rw [hnl]; exact hck
    have hfl := frame_len nb kn pay
    have hpc := put_c nb pay kn c2 A2 _ (HR2.out) HB.out HNB.out (by omega) hck2
    rw [hnm] at hpc
    have HPC := Lib.hid hpc
    clear hpc hnb hnm hck2
    obtain ⟨L, hL⟩ : ∃ L, (frameB nb kn pay).length = L := ⟨_, rfl⟩
    have hL0 : 0 < L := by omega
    go_wp2_with fail
    refine HPC.out.mono ?_
    rintro e w3 ⟨A9, c9, rfl, _, _, _, hx3⟩
    rw [hL]
    have X3 := Lib.hid (Ext.trans _ _ _ X2.out hx3)
    have y0 := hx3.cell z0
    have y1 := hx3.cell z1
    have y2 := hx3.cell z2
    clear hx3 hL hfl hnl
    go_wp2_with fail
    refine (check_c name kn pay.length c2 A2 _).mono ?_
    rintro e w4 ⟨rfl, hx4⟩
    rw [hck]
    have X4 := Lib.hid (Ext.trans _ _ _ X3.out hx4)
    clear hx4
    have hd9 : decide (0 < L) = true := by simpa using hL0
    go_wp2_with fail
    go_ret
    exact ⟨rfl, X4.out⟩
  | true =>
    have hmk : ∀ w, (Instr.makeSlice 22 (.int .i64 1048577) (.int .i64 1048577)).run Try.prog w = .ok (.slice (some ⟨w.heap.size, 0, none⟩) 1048577 1048577) (w.alloc (.cells (madeCells #[.int .u8 0] 1048577) 5)) := fun _ => by kernel_rfl
    clear hx2 hbk2
    have hxa : Ext w1 (w1.alloc (.cells #[.string name, .int .u8 kn, .slice (some ⟨w1.heap.size + 1, 0, none⟩) 1048577 1048577] 30)) := (Below.refl _ _).alloc (Nat.le_refl _) _
    have hxb : Ext (w1.alloc (.cells #[.string name, .int .u8 kn, .slice (some ⟨w1.heap.size + 1, 0, none⟩) 1048577 1048577] 30)) ((w1.alloc (.cells #[.string name, .int .u8 kn, .slice (some ⟨w1.heap.size + 1, 0, none⟩) 1048577 1048577] 30)).alloc (.cells (madeCells #[.int .u8 0] 1048577) 5)) := (Below.refl _ _).alloc (Nat.le_refl _) _
    have hbk3 := heap_alloc_new w1 (.cells #[.string name, .int .u8 kn, .slice (some ⟨w1.heap.size + 1, 0, none⟩) 1048577 1048577] 30)
    have z0 : ((w1.alloc (.cells #[.string name, .int .u8 kn, .slice (some ⟨w1.heap.size + 1, 0, none⟩) 1048577 1048577] 30)).alloc (.cells (madeCells #[.int .u8 0] 1048577) 5)).cell? ⟨w1.heap.size, 0, none⟩ = some (.string name) := hxb.cell (Blk.cell (S := fun q => q = w1.heap.size) ⟨hbk3, fun _ => Iff.rfl⟩ 0)
    have z1 : ((w1.alloc (.cells #[.string name, .int .u8 kn, .slice (some ⟨w1.heap.size + 1, 0, none⟩) 1048577 1048577] 30)).alloc (.cells (madeCells #[.int .u8 0] 1048577) 5)).cell? ⟨w1.heap.size, 1, none⟩ = some (.int .u8 kn) := hxb.cell (Blk.cell (S := fun q => q = w1.heap.size) ⟨hbk3, fun _ => Iff.rfl⟩ 1)
    have z2 : ((w1.alloc (.cells #[.string name, .int .u8 kn, .slice (some ⟨w1.heap.size + 1, 0, none⟩) 1048577 1048577] 30)).alloc (.cells (madeCells #[.int .u8 0] 1048577) 5)).cell? ⟨w1.heap.size, 2, none⟩ = some (.slice (some ⟨w1.heap.size + 1, 0, none⟩) 1048577 1048577) := hxb.cell (Blk.cell (S := fun q => q = w1.heap.size) ⟨hbk3, fun _ => Iff.rfl⟩ 2)
    have XB := Lib.hid (Ext.trans _ _ _ X1.out (Ext.trans _ _ _ hxa hxb))
    clear hxa hxb hbk3 HR2 X2
    by_cases n1 : name.size < 1
    · have hck : checkF name.size kn 1048577 = 12 := by unfold checkF; rw [if_pos (.inl n1)]
      have d1 : decide ((name.size : Int) < 1) = true := by simp; omega
      go_wp2_with fail
      refine (put_bad name kn 1048577 1048577 (some ⟨w1.heap.size + 1, 0, none⟩) _ (by rw [hck]; decide)).mono ?_
      rintro e w3 ⟨rfl, hx3⟩
      rw [hck]
      have X3 := Lib.hid (Ext.trans _ _ _ XB.out hx3)
      have y0 := hx3.cell z0
      have y1 := hx3.cell z1
      have y2 := hx3.cell z2
      clear hx3
      go_wp2_with fail
      refine (check_c name kn 1048577 1048577 (some ⟨w1.heap.size + 1, 0, none⟩) _).mono ?_
      rintro e w4 ⟨rfl, hx4⟩
      rw [hck]
      have X4 := Lib.hid (Ext.trans _ _ _ X3.out hx4)
      clear hx4
      go_wp2_with fail
      go_ret
      exact ⟨rfl, X4.out⟩
    have d1 : decide ((name.size : Int) < 1) = false := by simp; omega
    by_cases n2 : 255 < name.size
    · have hck : checkF name.size kn 1048577 = 12 := by unfold checkF; rw [if_pos (.inr n2)]
      have d2 : decide ((255 : Int) < (name.size : Int)) = true := by simp; omega
      go_wp2_with fail
      refine (put_bad name kn 1048577 1048577 (some ⟨w1.heap.size + 1, 0, none⟩) _ (by rw [hck]; decide)).mono ?_
      rintro e w3 ⟨rfl, hx3⟩
      rw [hck]
      have X3 := Lib.hid (Ext.trans _ _ _ XB.out hx3)
      have y0 := hx3.cell z0
      have y1 := hx3.cell z1
      have y2 := hx3.cell z2
      clear hx3
      go_wp2_with fail
      refine (check_c name kn 1048577 1048577 (some ⟨w1.heap.size + 1, 0, none⟩) _).mono ?_
      rintro e w4 ⟨rfl, hx4⟩
      rw [hck]
      have X4 := Lib.hid (Ext.trans _ _ _ X3.out hx4)
      clear hx4
      go_wp2_with fail
      go_ret
      exact ⟨rfl, X4.out⟩
    have d2 : decide ((255 : Int) < (name.size : Int)) = false := by simp; omega
    by_cases n3 : 5 < kn
    · have hck : checkF name.size kn 1048577 = 5 := by unfold checkF; rw [if_neg (fun q => q.elim n1 n2), if_pos (by omega)]
      have d3 : decide ((5 : Int) < (kn : Int)) = true := by simp; omega
      go_wp2_with fail
      refine (put_bad name kn 1048577 1048577 (some ⟨w1.heap.size + 1, 0, none⟩) _ (by rw [hck]; decide)).mono ?_
      rintro e w3 ⟨rfl, hx3⟩
      rw [hck]
      have X3 := Lib.hid (Ext.trans _ _ _ XB.out hx3)
      have y0 := hx3.cell z0
      have y1 := hx3.cell z1
      have y2 := hx3.cell z2
      clear hx3
      go_wp2_with fail
      refine (check_c name kn 1048577 1048577 (some ⟨w1.heap.size + 1, 0, none⟩) _).mono ?_
      rintro e w4 ⟨rfl, hx4⟩
      rw [hck]
      have X4 := Lib.hid (Ext.trans _ _ _ X3.out hx4)
      clear hx4
      go_wp2_with fail
      go_ret
      exact ⟨rfl, X4.out⟩
    have d3 : decide ((5 : Int) < (kn : Int)) = false := by simp; omega
    have hck : checkF name.size kn 1048577 = 6 := by unfold checkF; rw [if_neg (fun q => q.elim n1 n2), if_neg (by omega), if_pos (by omega)]
    go_wp2_with fail
    refine (put_bad name kn 1048577 1048577 (some ⟨w1.heap.size + 1, 0, none⟩) _ (by rw [hck]; decide)).mono ?_
    rintro e w3 ⟨rfl, hx3⟩
    rw [hck]
    have X3 := Lib.hid (Ext.trans _ _ _ XB.out hx3)
    have y0 := hx3.cell z0
    have y1 := hx3.cell z1
    have y2 := hx3.cell z2
    clear hx3
    go_wp2_with fail
    refine (check_c name kn 1048577 1048577 (some ⟨w1.heap.size + 1, 0, none⟩) _).mono ?_
    rintro e w4 ⟨rfl, hx4⟩
    rw [hck]
    have X4 := Lib.hid (Ext.trans _ _ _ X3.out hx4)
    clear hx4
    go_wp2_with fail
    go_ret
    exact ⟨rfl, X4.out⟩
end Go.Proofs.Ytfpeeilenocaoaa.Frame
