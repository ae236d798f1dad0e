/- Sums of 32 bits: what the code reckons. -/
import Derived.Test.YtfpeeilenocaoaaProg
import Derived.Test.YtfpeeilenocaoaaCrcPure
import Derived.LoopTactic
import Derived.Outline
import Derived.Lib.SlBytesConst
namespace Go.Proofs.Ytfpeeilenocaoaa.Crc
open Go.RowKit Go.Proofs.Ytfpeeilenocaoaa.Own

def zcells : Array Value := Array.replicate 256 (.int .u32 0)
theorem zero_tab (w : World) : (zeroValue 95).run Try.prog w = .ok (.agg zcells) w := by kernel_rfl
theorem zcells_ne : ¬ zcells = #[] := by unfold zcells; simp
theorem zcells_size : zcells.size = 256 := by unfold zcells; simp
/-- The table, its first i places filled. -/
def tcells (i : Nat) : Array Value := ((List.range 256).map fun j => Value.int .u32 (if j < i then ((tab j).toNat : Int) else 0)).toArray
theorem tcells_zero : tcells 0 = zcells := by
  apply Array.ext
  · simp [tcells, zcells]
  · intro i h1 h2
    simp [tcells, zcells]
theorem tcells_set (i : Nat) : (tcells i).setIfInBounds i (.int .u32 ((tab i).toNat : Int)) = tcells (i + 1) := by
  apply Array.ext
  · simp [tcells]
  · intro j h1 h2
    have h3 : j < (tcells i).size := by simpa [tcells] using h2
    rw [Array.getElem_setIfInBounds h3]
    by_cases h : i = j
    · subst h; simp [tcells]
    · rw [if_neg h]
      simp only [tcells, List.getElem_toArray, List.getElem_map, List.getElem_range]
      by_cases hj : j < i
      · rw [if_pos hj, if_pos (by omega)]
      · rw [if_neg hj, if_neg (by omega)]
theorem tcells_get {i : Nat} (h : i < 256) (k : Nat) : (tcells k)[i]? = some (.int .u32 (if i < k then ((tab i).toNat : Int) else 0)) := by
  simp [tcells, h]
/-- The whole table at p. -/
def Tab (p : Nat) : Asn := Blk p (tcells 256) 95

set_option maxHeartbeats 1000000 in
set_option maxRecDepth 20000 in
theorem of_tri : Tri Try.prog 50 #[] Emp (fun e => Some fun p => Fact (e = .returned (.pointer (some ⟨p, 0, none⟩))) (Tab p)) := by
  intro w S hemp
  have hz := zero_tab
  have h1 := zcells_ne
  have h2 := zcells_size
  have ha := (Sep.alloc Lcl.emp hemp zcells 95)
  have H0 := Lib.hid (show Blk w.heap.size (tcells 0) 95 (w.alloc (.cells zcells 95)) (fun k => k = w.heap.size) from by rw [tcells_zero]; exact ⟨heap_alloc_new w _, fun _ => Iff.rfl⟩)
  have ST0 := Lib.hid (show Step S (fun k => k = w.heap.size) w (w.alloc (.cells zcells 95)) from ha.2.less (fun _ q => .inl q))
  clear ha hemp
  go_enter Try.func50, Try.ntmps50
  go_wp2_with fail
  clear hz h1 h2
  go_loopw [6] (fun i wr => ∃ k : Nat, k ≤ 256 ∧ i = .int .i64 k ∧ ∃ S1, Blk w.heap.size (tcells k) 95 wr S1 ∧ Step S S1 w wr) (fun i _ => 256 - (intOf i).toNat)
  case atStart => exact ⟨0, by omega, rfl, _, H0.out, ST0.out⟩
  case round =>
    obtain ⟨k, hk, rfl, S1, hb, st⟩ := hrel
    have H1 := Lib.hid hb
    have ST1 := Lib.hid st
    clear hb st
    by_cases hlt : k < 256
    · go_wp2_with fail
      go_loopw [3, 11] (fun n i wr => ∃ (j : Nat) (x : BitVec 32) (S1 : Nat → Prop), j ≤ 8 ∧ i = .int .i64 j ∧ n = .int .u32 (x.toNat : Nat) ∧ sts (8 - j) x = tab k ∧ Blk w.heap.size (tcells k) 95 wr S1 ∧ Step S S1 w wr) (fun _ i _ => 8 - (intOf i).toNat)
      case atStart => exact ⟨0, BitVec.ofNat 32 k, S1, by omega, rfl, by simp; omega, rfl, H1.out, ST1.out⟩
      case round =>
        clear H1 ST1 S1
        obtain ⟨j, x, S1, hj, rfl, rfl, hx, hb, st⟩ := hrel
        have H1 := Lib.hid hb
        have ST1 := Lib.hid st
        clear hb st
        by_cases hl8 : j < 8
        · have hc := st_code' x
          go_wp2_with fail
          go_roundw
          case rel => exact ⟨j + 1, st x, S1, by omega, rfl, rfl, by rw [← hx, show 8 - j = (8 - (j + 1)) + 1 by omega]; rfl, H1.out, ST1.out⟩
          case measure => simp [intOf]; omega
        · obtain rfl : j = 8 := by omega
          obtain rfl : x = tab k := hx
          have f0 := H1.out.free k
          have c0 := (H1.out.cell k).trans (tcells_get hlt k)
          go_wp2_with fail
          have hs := H1.out.set k (.int .u32 ((tab k).toNat : Int))
          rw [tcells_set] at hs
          go_roundw
          case rel => exact ⟨k + 1, by omega, rfl, S1, hs.1, ST1.out.trans hs.2⟩
          case measure => simp [intOf]; omega
    · obtain rfl : k = 256 := by omega
      go_wp2_with fail
      go_ret
      exact ⟨S1, ⟨w.heap.size, rfl, H1.out⟩, ST1.out⟩

theorem step_below {S1 : Nat → Prop} {w w' : World} (h : Step (fun _ => False) S1 w w') : Below w.heap.size w w' := h.keep.below (Nat.le_refl _) (fun _ _ x => x)

set_option maxHeartbeats 1000000 in
set_option maxRecDepth 20000 in
theorem sum_calls (w : World) (A : Option Addr) (c : Nat) (xs : List Int) (hr : Reads w .u8 A xs) (hb : IsBytes xs) (hl : xs.length ≤ 9223372036854775807) :
    Calls Try.prog 47 #[.slice A xs.length c] w fun e w' => e = .returned (.int .u32 ((sum xs).toNat : Int)) ∧ Below w.heap.size w w' := by
  have HR := Lib.hid hr
  have HB := Lib.hid hb
  clear hr hb
  go_enter Try.func47, Try.ntmps47
  go_wp2_with fail
  refine (of_tri w (fun _ => False) (fun _ x => x)).mono ?_
  rintro e w1 ⟨S1, ⟨p, rfl, h1⟩, st1⟩
  have HT := Lib.hid h1
  have HR1 := Lib.hid (HR.out.later (step_below st1))
  have ST := Lib.hid st1
  clear h1 st1
  go_wp2_with fail
  go_loopw [4, 10] (fun n i wr => wr = w1 ∧ ∃ (k : Nat) (x : BitVec 32), k ≤ xs.length ∧ i = .int .i64 k ∧ n = .int .u32 (x.toNat : Nat) ∧ x = crcs 0xffffffff#32 (xs.take k)) (fun _ i _ => xs.length - (intOf i).toNat)
  case atStart => exact ⟨rfl, 0, 0xffffffff#32, by omega, rfl, rfl, rfl⟩
  case round =>
    obtain ⟨rfl, k, x, hk, rfl, rfl, hx⟩ := hrel
    by_cases hlt : k < xs.length
    · obtain ⟨b, o, rfl, hblt, hc⟩ := HR1.out.at hlt
      have hz0 : 0 ≤ xs.getD k 0 ∧ xs.getD k 0 ≤ 255 := HB.out _ (by simp [List.getD_eq_getElem?_getD, List.getElem?_eq_getElem hlt])
      have htk : xs.take (k + 1) = xs.take k ++ [xs.getD k 0] := by
        rw [List.take_add_one]; simp [List.getD_eq_getElem?_getD, List.getElem?_eq_getElem hlt]
      obtain ⟨z, hz⟩ : ∃ z, xs.getD k 0 = z := ⟨_, rfl⟩
      rw [hz] at hc hz0 htk
      have hb1 := by1_code x hz0
      have hix : bits .xor .u8 ((x.toNat : Int) % 256) z = (ix x z : Int) := by rw [Bit.xor8]; rfl
      have hlti := ix_lt x z
      obtain ⟨i, hi⟩ : ∃ i, ix x z = i := ⟨_, rfl⟩
      rw [hi] at hb1 hix hlti
      have ct := (HT.out.cell i).trans (tcells_get hlti 256)
      rw [if_pos hlti] at ct
      have HX := Lib.hid hx
      have HTK := Lib.hid htk
      clear hx htk
      go_wp2_with fail
      go_roundw
      case rel => exact ⟨by trivial, k + 1, by1 x z, by omega, rfl, rfl, by rw [HTK.out, crcs_app, ← HX.out]; rfl⟩
      case measure => simp [intOf]; omega
    · obtain rfl : k = xs.length := by omega
      rw [List.take_length] at hx
      have hn : bits .xor .u32 IntKind.u32.max (x.toNat : Int) = ((~~~ x).toNat : Int) := not_code x
      have hs : IntKind.u32.signed = false := rfl
      obtain ⟨y, hy⟩ : ∃ y, ~~~ x = y := ⟨_, rfl⟩
      rw [hy] at hn
      have HX := Lib.hid (show y = sum xs by rw [← hy, hx]; rfl)
      clear hx hy
      go_wp2_with fail
      go_ret
      rw [← HX.out]
      exact ⟨rfl, step_below ST.out⟩

theorem sum_eq {xs : List Int} : sum xs = ~~~ crcs 0xffffffff#32 xs := rfl

end Go.Proofs.Ytfpeeilenocaoaa.Crc
