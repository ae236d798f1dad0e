/- A row of numbers that don't fall: Select, From. -/
import Derived.Test.YtlmelcfiegamaaaFanoC
import Derived.Test.YtlmelcfiegamaaaRicePut
namespace Go.Proofs.Ytlmelcfiegamaaa.Fano
open Go.RowKit Go.Proofs.Ytlmelcfiegamaaa.Own Go.Proofs.Ytlmelcfiegamaaa.Rely Go.Proofs.Ytlmelcfiegamaaa.Bits
attribute [local go_sem] max_ints min_ints

abbrev CurI (w0 : World) (l : List Int) (A1 A2 : Option Addr) (c1 c2 p p1 p2 j : Nat) (w : World) : Prop := Cur w0 l A1 A2 c1 c2 p p1 p2 (j * lowF l) (j + wasN (lowF l) l j) j (wasN (lowF l) l j) w
theorem curI0 {w0 : World} {l : List Int} {A1 A2 : Option Addr} {c1 c2 p p1 p2 : Nat} {w : World} (h : Cur w0 l A1 A2 c1 c2 p p1 p2 0 0 0 0 w) : CurI w0 l A1 A2 c1 c2 p p1 p2 0 w := by
  have : wasN (lowF l) l 0 = 0 := rfl
  unfold CurI; rw [this, Nat.zero_mul]; exact h
/-- What Next tells at a place, and where it stands then. -/
def At (w0 : World) (l : List Int) (A1 A2 : Option Addr) (c1 c2 p p1 p2 j : Nat) (n ok : Value) (w : World) : Prop :=
  (j < l.length ∧ n = .int .u32 (val l j) ∧ ok = .bool true ∧ CurI w0 l A1 A2 c1 c2 p p1 p2 (j + 1) w) ∨ (j = l.length ∧ n = .int .u32 0 ∧ ok = .bool false ∧ CurI w0 l A1 A2 c1 c2 p p1 p2 l.length w)
theorem next_all {w0 : World} {l : List Int} {A1 A2 : Option Addr} {c1 c2 p p1 p2 j : Nat} {w : World} (hL : Lies w0 l A1 A2 c1 c2) (hF : Fresh3 w0.heap.size p p1 p2) (hC : CurI w0 l A1 A2 c1 c2 p p1 p2 j w) (hj : j ≤ l.length) :
    Calls Try.prog 28 #[.pointer (some ⟨p, 0, none⟩)] w fun e w' => ∃ n ok, e = .returned (.tuple #[n, ok]) ∧ At w0 l A1 A2 c1 c2 p p1 p2 j n ok w' := by
  by_cases hlt : j < l.length
  · refine (next_c hL hF hC hlt).mono ?_
    rintro e w' ⟨rfl, h⟩
    exact ⟨_, _, rfl, .inl ⟨hlt, rfl, rfl, h⟩⟩
  · obtain rfl : j = l.length := by omega
    refine (next_end hL.le hC).mono ?_
    rintro e w' ⟨rfl, h⟩
    exact ⟨_, _, rfl, .inr ⟨rfl, rfl, rfl, h⟩⟩

theorem lies_later {w0 w1 : World} {l : List Int} {A1 A2 : Option Addr} {c1 c2 : Nat} (h : Lies w0 l A1 A2 c1 c2) (hx : Ext w0 w1) : Lies w1 l A1 A2 c1 c2 := ⟨h.nf, h.u, h.le, hx.reads h.r1, hx.reads h.r2⟩
def rowV (l : List Int) (A1 A2 : Option Addr) (c1 c2 : Nat) : Value := .agg #[.int .i64 l.length, .int .u32 (lastN l), .int .i64 (lowF l), .slice A1 (lowsF l).length c1, .slice A2 (highF l).length c2]
def selV (l : List Int) (i : Int) : Value := if 0 ≤ i ∧ i < l.length then .tuple #[.int .u32 (val l i.toNat), .bool true] else .tuple #[.int .u32 0, .bool false]
theorem wrapI (x : Int) : IntKind.i64.wrap x = wrap64 x := by rw [IntKind.wrap_i64]; unfold wrap64; omega
/-- How far it is to the end. -/
def selM (l : List Int) (p : Nat) (ok : Value) (w : World) : Nat := (l.length - (match w.cell? ⟨p, 7, none⟩ with | some v => (intOf v).toNat | none => 0)) + (match ok with | .bool true => 1 | _ => 0)
theorem selM_at {w0 : World} {l : List Int} {A1 A2 : Option Addr} {c1 c2 p p1 p2 j : Nat} {n ok : Value} {w : World} (h : At w0 l A1 A2 c1 c2 p p1 p2 j n ok w) : selM l p ok w = l.length - j := by
  rcases h with ⟨h1, _, rfl, h2⟩ | ⟨rfl, _, rfl, h2⟩
  · have c7 := bl_cell h2.bc 7
    simp only [List.getElem?_toArray, List.getElem?_cons_zero, List.getElem?_cons_succ] at c7
    unfold selM; rw [c7]; simp [intOf]; omega
  · have c7 := bl_cell h2.bc 7
    simp only [List.getElem?_toArray, List.getElem?_cons_zero, List.getElem?_cons_succ] at c7
    unfold selM; rw [c7]; simp [intOf]
theorem wrap_step {i : Int} {j : Nat} : wrap64 (wrap64 (i - j) - 1) = wrap64 (i - ((j + 1 : Nat) : Int)) := by unfold wrap64; omega
theorem wrap_zero {i : Int} {j : Nat} (hi : -9223372036854775808 ≤ i ∧ i ≤ 9223372036854775807) (hj : j ≤ 5000) (hne : ¬ i = j) : ¬ wrap64 (i - j) = 0 := by unfold wrap64; omega

set_option maxHeartbeats 4000000 in
theorem select_c {w : World} {l : List Int} {A1 A2 : Option Addr} {c1 c2 : Nat} (hL : Lies w l A1 A2 c1 c2) (i : Int) (hi : -9223372036854775808 ≤ i ∧ i ≤ 9223372036854775807) :
    Calls Try.prog 25 #[.agg #[.int .i64 l.length, .int .u32 (lastN l), .int .i64 (lowF l), .slice A1 (lowsF l).length c1, .slice A2 (highF l).length c2], .int .i64 i] w fun e w' => e = .returned (selV l i) ∧ Ext w w' := by
  have hx1 : Ext w (w.alloc (.cells #[.int .i64 l.length, .int .u32 (lastN l), .int .i64 (lowF l), .slice A1 (lowsF l).length c1, .slice A2 (highF l).length c2] 29)) := (Below.refl _ _).alloc (Nat.le_refl _) _
  have HL := Lib.hid (lies_later hL hx1)
  have HX1 := Lib.hid hx1
  have hle := hL.le
  clear hL hx1
  go_enter Try.func25, Try.ntmps25
  go_wp2_with fail
  refine (cursor_c (l := l) (A1 := A1) (A2 := A2) (c1 := c1) (c2 := c2) _).mono ?_
  rintro e w2 ⟨p, p1, p2, rfl, hF, hC⟩
  have HF := Lib.hid hF
  have HC := Lib.hid (curI0 hC)
  clear hF hC
  generalize w.alloc (.cells #[.int .i64 l.length, .int .u32 (lastN l), .int .i64 (lowF l), .slice A1 (lowsF l).length c1, .slice A2 (highF l).length c2] 29) = w1 at HL HX1 HF HC
  go_wp2_with fail
  refine (next_all HL.out HF.out HC.out (Nat.zero_le _)).mono ?_
  rintro e w3 ⟨n, ok, rfl, hat⟩
  have HAT := Lib.hid hat
  clear hat HC
  go_wp2_with fail
  go_loopw [1, 7, 8] (fun iv n ok wr => ∃ j : Nat, iv = .int .i64 (wrap64 (i - j)) ∧ (0 ≤ i → (j : Int) ≤ i) ∧ j ≤ l.length ∧ At w1 l A1 A2 c1 c2 p p1 p2 j n ok wr) (fun _ _ ok wr => selM l p ok wr)
  case atStart => exact ⟨0, by rw [show wrap64 (i - ((0 : Nat) : Int)) = i by unfold wrap64; omega], fun h => h, Nat.zero_le _, HAT.out⟩
  case round =>
    clear HAT
    obtain ⟨j, rfl, hji, hjl, hat⟩ := hrel
    have HM := Lib.hid (selM_at hat)
    rcases hat with ⟨hlt, rfl, rfl, hc⟩ | ⟨rfl, rfl, rfl, hc⟩
    · have HC := Lib.hid hc
      clear hc
      by_cases hij : i = j
      · have HS := Lib.hid (show selV l i = .tuple #[.int .u32 (val l j), .bool true] by unfold selV; rw [if_pos (by omega)]; rw [show i.toNat = j by omega])
        have hz : (wrap64 (i - j) == 0) = true := by rw [beq_iff_eq, hij]; unfold wrap64; omega
        generalize wrap64 (i - j) = v at hz
        have HXX := Lib.hid (Ext.trans _ _ _ HX1.out HC.out.ext)
        clear hij hji hi
        go_wp2_with fail
        go_ret2
        exact ⟨by rw [HS.out]; rfl, HXX.out⟩
      · have hz : (wrap64 (i - j) == 0) = false := by rw [beq_eq_false_iff_ne]; exact wrap_zero hi (by omega) hij
        have HW := Lib.hid (show wrap64 (wrap64 (i - j) - 1) = wrap64 (i - ((j + 1 : Nat) : Int)) from wrap_step)
        have HJI := Lib.hid (show 0 ≤ i → ((j + 1 : Nat) : Int) ≤ i from fun h => by have := hji h; omega)
        generalize wrap64 (i - j) = v at hz HW HM
        have hwv : IntKind.i64.wrap (v - 1) = wrap64 (v - 1) := wrapI _
        clear hij hji hi
        go_wp2_with fail
        refine (next_all HL.out HF.out HC.out hlt).mono ?_
        rintro e w5 ⟨n5, ok5, rfl, hat5⟩
        have HM5 := Lib.hid (selM_at hat5)
        have HAT5 := Lib.hid hat5
        clear hat5
        go_wp2_with fail
        exact ⟨⟨j + 1, by rw [HW.out], HJI.out, hlt, HAT5.out⟩, by rw [HM.out, HM5.out]; omega⟩
    · have HS := Lib.hid (show selV l i = .tuple #[.int .u32 0, .bool false] by unfold selV; rw [if_neg (fun h => by have := hji h.1; omega)])
      have HXX := Lib.hid (Ext.trans _ _ _ HX1.out hc.ext)
      clear hc hji hi
      go_wp2_with fail
      go_ret2
      exact ⟨by rw [HS.out]; rfl, HXX.out⟩

/-- The first that isn't below one; its place. -/
def firstN (l : List Int) (m : Int) : Nat → Nat → Nat
  | 0, k => k
  | f + 1, k => if m ≤ (val l k : Int) then k else firstN l m f (k + 1)
def fromN (l : List Int) (m : Int) : Nat := firstN l m l.length 0
def fromV (l : List Int) (m : Int) : Value := if fromN l m < l.length then .tuple #[.int .u32 (val l (fromN l m)), .int .i64 (fromN l m), .bool true] else .tuple #[.int .u32 0, .int .i64 0, .bool false]
theorem firstN_le (l : List Int) (m : Int) : ∀ f k, firstN l m f k ≤ f + k
  | 0, k => by simp [firstN]
  | f + 1, k => by
    unfold firstN
    split
    · omega
    · have := firstN_le l m f (k + 1); omega

set_option maxHeartbeats 4000000 in
theorem from_c {w : World} {l : List Int} {A1 A2 : Option Addr} {c1 c2 : Nat} (hL : Lies w l A1 A2 c1 c2) (m : Int) :
    Calls Try.prog 26 #[.agg #[.int .i64 l.length, .int .u32 (lastN l), .int .i64 (lowF l), .slice A1 (lowsF l).length c1, .slice A2 (highF l).length c2], .int .u32 m] w fun e w' => e = .returned (fromV l m) ∧ Ext w w' := by
  have hx1 : Ext w (w.alloc (.cells #[.int .i64 l.length, .int .u32 (lastN l), .int .i64 (lowF l), .slice A1 (lowsF l).length c1, .slice A2 (highF l).length c2] 29)) := (Below.refl _ _).alloc (Nat.le_refl _) _
  have HL := Lib.hid (lies_later hL hx1)
  have HX1 := Lib.hid hx1
  have hle := hL.le
  clear hL hx1
  go_enter Try.func26, Try.ntmps26
  go_wp2_with fail
  refine (cursor_c (l := l) (A1 := A1) (A2 := A2) (c1 := c1) (c2 := c2) _).mono ?_
  rintro e w2 ⟨p, p1, p2, rfl, hF, hC⟩
  have HF := Lib.hid hF
  have HC := Lib.hid (curI0 hC)
  clear hF hC
  generalize w.alloc (.cells #[.int .i64 l.length, .int .u32 (lastN l), .int .i64 (lowF l), .slice A1 (lowsF l).length c1, .slice A2 (highF l).length c2] 29) = w1 at HL HX1 HF HC
  go_wp2_with fail
  go_loopw [8] (fun v wr => ∃ (f j : Nat), j + f = l.length ∧ v = .int .i64 j ∧ firstN l m f j = fromN l m ∧ CurI w1 l A1 A2 c1 c2 p p1 p2 j wr) (fun v _ => l.length + 1 - (intOf v).toNat)
  case atStart => exact ⟨l.length, 0, by omega, rfl, rfl, HC.out⟩
  case round =>
    clear HC
    obtain ⟨f, j, hfj, rfl, hfn, hc⟩ := hrel
    have HC := Lib.hid hc
    clear hc
    cases f with
    | zero =>
      obtain rfl : j = l.length := by omega
      have HS := Lib.hid (show fromV l m = .tuple #[.int .u32 0, .int .i64 0, .bool false] by unfold fromV; rw [← hfn, if_neg (by show ¬ l.length < l.length; omega)])
      clear hfn
      go_wp2_with fail
      refine (next_end hle HC.out).mono ?_
      rintro e w5 ⟨rfl, hc5⟩
      have HXX := Lib.hid (Ext.trans _ _ _ HX1.out hc5.ext)
      clear hc5
      go_wp2_with fail
      exact bodyPost_ret (v := .tuple #[.int .u32 0, .int .i64 0, .bool false]) (by simp [results, Try.results26, go_sem]) rfl ⟨by rw [HS.out], HXX.out⟩
    | succ f =>
      have hlt : j < l.length := by omega
      obtain ⟨n, hn⟩ : ∃ n, val l j = n := ⟨_, rfl⟩
      have hfs : (if m ≤ (n : Int) then j else firstN l m f (j + 1)) = fromN l m := by rw [← hn]; exact hfn
      have HN := Lib.hid hn
      clear hfn hn
      by_cases hmn : m ≤ (n : Int)
      · rw [if_pos hmn] at hfs
        have HS := Lib.hid (show fromV l m = .tuple #[.int .u32 n, .int .i64 j, .bool true] by unfold fromV; rw [← hfs, if_pos hlt, HN.out])
        have hd : decide (m ≤ (n : Int)) = true := by simpa using hmn
        clear hfs hmn
        go_wp2_with fail
        refine (next_c HL.out HF.out HC.out hlt).mono ?_
        rintro e w5 ⟨rfl, hc5⟩
        rw [HN.out]
        have HXX := Lib.hid (Ext.trans _ _ _ HX1.out hc5.ext)
        clear hc5
        go_wp2_with fail
        exact bodyPost_ret (v := .tuple #[.int .u32 n, .int .i64 j, .bool true]) (by simp [results, Try.results26, go_sem]) rfl ⟨by rw [HS.out], HXX.out⟩
      · rw [if_neg hmn] at hfs
        have HFS := Lib.hid hfs
        have hd : decide (m ≤ (n : Int)) = false := by simpa using hmn
        clear hfs hmn
        go_wp2_with fail
        refine (next_c HL.out HF.out HC.out hlt).mono ?_
        rintro e w5 ⟨rfl, hc5⟩
        rw [HN.out]
        have HC5 := Lib.hid hc5
        clear hc5
        go_wp2_with fail
        exact ⟨⟨f, j + 1, by omega, by go_num, HFS.out, HC5.out⟩, by simp [intOf]; omega⟩
end Go.Proofs.Ytlmelcfiegamaaa.Fano
/- A row of numbers that don't fall: none, too many, falling ones; its bytes; the fixed fact of chapter 6. -/
namespace Go.Proofs.Ytlmelcfiegamaaa.Fano
open Go.RowKit Go.Proofs.Ytlmelcfiegamaaa.Own Go.Proofs.Ytlmelcfiegamaaa.Rely Go.Proofs.Ytlmelcfiegamaaa.Bits
attribute [local go_sem] max_ints min_ints

set_option maxHeartbeats 2000000 in
theorem of_nil (A : Option Addr) (c : Nat) (w : World) :
    Calls Try.prog 17 #[.slice A 0 c] w fun e w' => e = .returned (.tuple #[.agg #[.int .i64 0, .int .u32 0, .int .i64 0, .slice none 0 0, .slice none 0 0], .int .i64 0]) ∧ Ext w w' := by
  go_enter Try.func17, Try.ntmps17
  go_wp2_with fail
  refine bodyPost_ret (v := .tuple #[.agg #[.int .i64 0, .int .u32 0, .int .i64 0, .slice none 0 0, .slice none 0 0], .int .i64 0]) (by simp [results, Try.results17, go_sem]) rfl ⟨rfl, ?_⟩
  first
  | exact (Below.refl _ _).alloc (Nat.le_refl _) _
  | exact ((Below.refl _ _).alloc (Nat.le_refl _) _).alloc (by simp) _
set_option maxHeartbeats 2000000 in
theorem of_many (A : Option Addr) (c n : Nat) (hn : 4096 < n) (w : World) :
    Calls Try.prog 17 #[.slice A n c] w fun e w' => e = .returned (.tuple #[.agg #[.int .i64 0, .int .u32 0, .int .i64 0, .slice none 0 0, .slice none 0 0], .int .i64 7]) ∧ Ext w w' := by
  go_enter Try.func17, Try.ntmps17
  have hd : decide ((4096 : Int) < (n : Int)) = true := by simp; omega
  go_wp2_with fail
  refine bodyPost_ret (v := .tuple #[.agg #[.int .i64 0, .int .u32 0, .int .i64 0, .slice none 0 0, .slice none 0 0], .int .i64 7]) (by simp [results, Try.results17, go_sem]) rfl ⟨rfl, ?_⟩
  first
  | exact (Below.refl _ _).alloc (Nat.le_refl _) _
  | exact ((Below.refl _ _).alloc (Nat.le_refl _) _).alloc (by simp) _

def rowB (l : List Int) : List Int := Wire.enc l.length ++ Wire.enc (lastN l) ++ lowsF l ++ Wire.enc (highF l).length ++ highF l
set_option maxHeartbeats 4000000 in
theorem put_row (q : Nat) (L : List Int) (l : List Int) (A1 A2 : Option Addr) (c1 c2 : Nat) (B : Asn) (hB : Lcl B) (hr1 : ∀ w S, B w S → Reads w .u8 A1 (lowsF l)) (hr2 : ∀ w S, B w S → Reads w .u8 A2 (highF l))
    (hL : L.length ≤ 1000000) (hl : l.length ≤ 4096) (hX : lastN l < 4294967296) (h1 : (lowsF l).length ≤ 1000000) (h2 : (highF l).length ≤ 1000000) :
    Tri Try.prog 18 #[.agg #[.int .i64 l.length, .int .u32 (lastN l), .int .i64 (lowF l), .slice A1 (lowsF l).length c1, .slice A2 (highF l).length c2], .pointer (some ⟨q, 0, none⟩)] (Sep (Wire.Wr q L) B) (fun e => Fact (e = .returned (.tuple #[])) (Sep (Wire.Wr q (L ++ rowB l)) B)) := by
  intro w S h
  have n1 := Sep.alloc ((Wire.loc_wr q L).sep hB) h #[.int .i64 l.length, .int .u32 (lastN l), .int .i64 (lowF l), .slice A1 (lowsF l).length c1, .slice A2 (highF l).length c2] 29
  have H1 := Lib.hid n1.1.second
  have ST1 := Lib.hid n1.2
  have HRB := Lib.hid (show L ++ rowB l = L ++ Wire.enc l.length ++ Wire.enc (lastN l) ++ lowsF l ++ Wire.enc (highF l).length ++ highF l by unfold rowB; simp only [List.append_assoc])
  clear n1 h
  go_enter Try.func18, Try.ntmps18
  go_wp2_with fail
  generalize w.alloc (.cells #[.int .i64 l.length, .int .u32 (lastN l), .int .i64 (lowF l), .slice A1 (lowsF l).length c1, .slice A2 (highF l).length c2] 29) = w1 at H1 ST1 ⊢
  generalize w.heap.size = g at H1 ST1 ⊢
  have hFr : Lcl (Sep (Blk g #[.int .i64 l.length, .int .u32 (lastN l), .int .i64 (lowF l), .slice A1 (lowsF l).length c1, .slice A2 (highF l).length c2] 29) B) := (Lcl.blk _ _ _).sep hB
  have hg1 : ∀ w S, Sep (Blk g #[.int .i64 l.length, .int .u32 (lastN l), .int .i64 (lowF l), .slice A1 (lowsF l).length c1, .slice A2 (highF l).length c2] 29) B w S → Reads w .u8 A1 (lowsF l) := fun w S h => by
    obtain ⟨T, hT, _⟩ := h.comm.left
    exact hr1 _ _ hT
  have hg2 : ∀ w S, Sep (Blk g #[.int .i64 l.length, .int .u32 (lastN l), .int .i64 (lowF l), .slice A1 (lowsF l).length c1, .slice A2 (highF l).length c2] 29) B w S → Reads w .u8 A2 (highF l) := fun w S h => by
    obtain ⟨T, hT, _⟩ := h.comm.left
    exact hr2 _ _ hT
  have hcell : ∀ {P : List Int} {w : World} {S : Nat → Prop}, Sep (Wire.Wr q P) (Sep (Blk g #[.int .i64 l.length, .int .u32 (lastN l), .int .i64 (lowF l), .slice A1 (lowsF l).length c1, .slice A2 (highF l).length c2] 29) B) w S → w.cell? ⟨g, 1, none⟩ = some (.int .u32 (lastN l)) ∧ w.cell? ⟨g, 3, none⟩ = some (.slice A1 (lowsF l).length c1) ∧ w.cell? ⟨g, 4, none⟩ = some (.slice A2 (highF l).length c2) := fun h => by
    obtain ⟨T, hT, _⟩ := h.second.left
    exact ⟨hT.cell 1, hT.cell 3, hT.cell 4⟩
  have u1 : U64 l.length := by show l.length < 18446744073709551616; omega
  have u2 : U64 (lastN l) := by show lastN l < 18446744073709551616; omega
  have u3 : U64 (highF l).length := by show (highF l).length < 18446744073709551616; omega
  have e1 := Wire.enc_ten u1
  have e2 := Wire.enc_ten u2
  have e3 := Wire.enc_ten u3
  generalize lastN l = X at *
  generalize lowF l = k at *
  generalize lowsF l = B1 at *
  generalize highF l = B2 at *
  refine (((Wire.uint_tri q L l.length (by omega) u1).frame hFr) _ _ H1.out).mono ?_
  rintro e w2 ⟨S2, hf2, st2⟩
  obtain ⟨rfl, h2'⟩ := Sep.fact hf2
  have H2 := Lib.hid h2'
  have ST2 := Lib.hid (ST1.out.trans st2)
  obtain ⟨d1, d3, d4⟩ := hcell h2'
  clear hf2 h2' st2 H1 ST1
  go_wp2_with fail
  refine (((Wire.uint_tri q _ X (by simp; omega) u2).frame hFr) _ _ H2.out).mono ?_
  rintro e w3 ⟨S3, hf3, st3⟩
  obtain ⟨rfl, h3⟩ := Sep.fact hf3
  have H3 := Lib.hid h3
  have ST3 := Lib.hid (ST2.out.trans st3)
  clear d1 d3 d4
  obtain ⟨d1, d3, d4⟩ := hcell h3
  clear hf3 h3 st3 H2 ST2
  go_wp2_with fail
  refine ((Wire.put_tri q _ A1 c1 B1 _ hFr hg1 (by simp; omega)) _ _ H3.out).mono ?_
  rintro e w4 ⟨S4, hf4, st4⟩
  obtain ⟨rfl, h4'⟩ := hf4
  have H4 := Lib.hid h4'
  have ST4 := Lib.hid (ST3.out.trans st4)
  clear d1 d3 d4
  obtain ⟨d1, d3, d4⟩ := hcell h4'
  clear h4' st4 H3 ST3
  go_wp2_with fail
  refine (((Wire.uint_tri q _ B2.length (by simp; omega) u3).frame hFr) _ _ H4.out).mono ?_
  rintro e w5 ⟨S5, hf5, st5⟩
  obtain ⟨rfl, h5'⟩ := Sep.fact hf5
  have H5 := Lib.hid h5'
  have ST5 := Lib.hid (ST4.out.trans st5)
  clear d1 d3 d4
  obtain ⟨d1, d3, d4⟩ := hcell h5'
  clear hf5 h5' st5 H4 ST4
  go_wp2_with fail
  refine ((Wire.put_tri q _ A2 c2 B2 _ hFr hg2 (by simp; omega)) _ _ H5.out).mono ?_
  rintro e w6 ⟨S6, hf6, st6⟩
  obtain ⟨rfl, h6'⟩ := hf6
  have H6 := Lib.hid h6'
  have ST6 := Lib.hid (ST5.out.trans st6)
  clear d1 d3 d4
  obtain ⟨d1, d3, d4⟩ := hcell h6'
  clear h6' st6 H5 ST5
  go_wp2_with fail
  go_end0
  obtain ⟨S7, h7, hs7⟩ := H6.out.second.comm.left
  refine ⟨S7, ⟨rfl, by rw [HRB.out]; exact h7⟩, ST6.out.less hs7⟩

theorem rowB_nil : rowB [] = [0, 0, 0] := by
  have e0 : Wire.enc 0 = [0] := Wire.enc_small (by decide)
  have h1 : lowsF [] = [] := rfl
  have h2 : highF [] = [] := rfl
  have h3 : lastN [] = 0 := rfl
  unfold rowB
  rw [h1, h2, h3]
  show Wire.enc 0 ++ Wire.enc 0 ++ [] ++ Wire.enc 0 ++ [] = _
  rw [e0]; rfl

/-- Falling numbers: the least of them. -/
theorem low21 : lowerN 2 1 = 0 := by decide
set_option maxHeartbeats 8000000 in
set_option maxRecDepth 20000 in
theorem of_21 (A : Option Addr) (w : World) (hr : Reads w .u32 A [2, 1]) :
    Calls Try.prog 17 #[.slice A 2 2] w fun e w' => e = .returned (.tuple #[.agg #[.int .i64 0, .int .u32 0, .int .i64 0, .slice none 0 0, .slice none 0 0], .int .i64 8]) ∧ Ext w w' := by
  obtain ⟨b, o, rfl, hbl, cx0⟩ := hr 0 (by decide)
  obtain ⟨b', o', e, _, cx1⟩ := hr 1 (by decide)
  injection e with e
  injection e with e1 e2 _
  subst e1 e2
  rw [Nat.add_zero, show ([2, 1] : List Int).getD 0 0 = 2 from rfl] at cx0
  rw [show ([2, 1] : List Int).getD 1 0 = 1 from rfl] at cx1
  have HR := Lib.hid hr
  clear hr
  go_enter Try.func17, Try.ntmps17
  go_wp2_with fail
  have hlow := lower_c 2 1 (by omega) (by omega)
  rw [low21] at hlow
  refine (hlow _).mono ?_
  clear hlow
  rintro e w1 ⟨rfl, rfl⟩
  go_wp2_with fail
  have n0 := Sep.alloc Lcl.emp (w := w) (S := fun _ => False) (fun _ x => x) #[.int .i64 0, .int .u32 0, .int .i64 0, .slice none 0 0, .slice none 0 0] 29
  have n1 := Sep.alloc ((Lcl.blk _ _ _).sep Lcl.emp) n0.1 #[.int .i64 2, .int .u32 1, .int .i64 0, .slice none 0 0, .slice none 0 0] 29
  have n2 := new_bw ((Lcl.blk _ _ _).sep ((Lcl.blk _ _ _).sep Lcl.emp)) n1.1
  have n3 := new_bw ((loc_bw _ _).sep ((Lcl.blk _ _ _).sep ((Lcl.blk _ _ _).sep Lcl.emp))) n2.1
  have H3 := Lib.hid n3.1
  have ST3 := Lib.hid (((n0.2.trans n1.2).trans n2.2).trans n3.2)
  clear n0 n1 n2 n3
  have z1 : (w.alloc (.cells #[.int .i64 0, .int .u32 0, .int .i64 0, .slice none 0 0, .slice none 0 0] 29)).heap.size = w.heap.size + 1 := by simp
  have z2 : ((w.alloc (.cells #[.int .i64 0, .int .u32 0, .int .i64 0, .slice none 0 0, .slice none 0 0] 29)).alloc (.cells #[.int .i64 2, .int .u32 1, .int .i64 0, .slice none 0 0, .slice none 0 0] 29)).heap.size = w.heap.size + 1 + 1 := by simp
  have z3 : (((w.alloc (.cells #[.int .i64 0, .int .u32 0, .int .i64 0, .slice none 0 0, .slice none 0 0] 29)).alloc (.cells #[.int .i64 2, .int .u32 1, .int .i64 0, .slice none 0 0, .slice none 0 0] 29)).alloc (.cells #[.slice none 0 0, .int .i64 0] 83)).heap.size = w.heap.size + 1 + 1 + 1 := by simp
  rw [z3, z2, z1] at H3 ST3
  clear z1 z2 z3
  have hp3 : w.heap.size + 1 + 1 + 1 ≤ w.heap.size + 3 := Nat.le_refl _
  clear hp3
  generalize (((w.alloc (.cells #[.int .i64 0, .int .u32 0, .int .i64 0, .slice none 0 0, .slice none 0 0] 29)).alloc (.cells #[.int .i64 2, .int .u32 1, .int .i64 0, .slice none 0 0, .slice none 0 0] 29)).alloc (.cells #[.slice none 0 0, .int .i64 0] 83)).alloc (.cells #[.slice none 0 0, .int .i64 0] 83) = w3 at H3 ST3 ⊢
  generalize w.heap.size + 1 + 1 + 1 = p3 at H3 ST3 ⊢
  generalize w.heap.size + 1 + 1 = p2 at H3 ST3 ⊢
  generalize w.heap.size + 1 = p1 at H3 ST3 ⊢
  obtain ⟨p0, hp0⟩ : ∃ p0, w.heap.size = p0 := ⟨_, rfl⟩
  rw [hp0] at H3 ST3 ⊢
  go_loopw [7, 40] (fun wv v wr => ∃ (i : Nat) (S' : Nat → Prop) (L M : List Bool), i ≤ 1 ∧ v = .int .i64 i ∧ wv = .int .u32 ((2 * i : Nat) : Int) ∧ L.length ≤ 10 * i ∧ M.length ≤ 10 * i ∧ Sep (BW p3 M) (Sep (BW p2 L) (Sep (Blk p1 #[.int .i64 2, .int .u32 1, .int .i64 0, .slice none 0 0, .slice none 0 0] 29) (Sep (Blk p0 #[.int .i64 0, .int .u32 0, .int .i64 0, .slice none 0 0, .slice none 0 0] 29) Emp))) wr S' ∧ Step (fun _ => False) S' w wr) (fun _ v _ => 2 - (intOf v).toNat)
  case atStart => exact ⟨0, _, [], [], by omega, rfl, rfl, by simp, by simp, H3.out, ST3.out⟩
  case round =>
    clear H3 ST3
    obtain ⟨i, S', L, M, hi, rfl, rfl, hL, hM, hw, hst⟩ := hrel
    have HW := Lib.hid hw
    have ST := Lib.hid hst
    have HE := Lib.hid (below_of hst)
    have d0 : wr.cell? ⟨b, o, none⟩ = some (.int .u32 2) := Ext.cell HE.out cx0
    have d1 : wr.cell? ⟨b, o + 1, none⟩ = some (.int .u32 1) := Ext.cell HE.out cx1
    clear hw hst
    obtain ⟨_, _, hpp, hB1, hB0, _⟩ := rows_blocks HW.out
    have c2 : wr.cell? ⟨p1, 2, none⟩ = some (.int .i64 0) := by
      obtain ⟨T, hT, _⟩ := (Wire.third HW.out).left
      exact hT.cell 2
    have hi01 : i = 0 ∨ i = 1 := by omega
    rcases hi01 with rfl | rfl
    · clear hB1 hB0 hpp
      go_wp2_with fail
      refine (((put_gen p2 L 2 0 0 (by decide) (by decide) (by decide) (by omega)).frame ((loc_bw _ _).sep ((Lcl.blk _ _ _).sep ((Lcl.blk _ _ _).sep Lcl.emp)))) _ _ HW.out.second).mono ?_
      rintro e w5 ⟨S5, hf5, st5⟩
      obtain ⟨rfl, h5⟩ := Sep.fact hf5
      have H5 := Lib.hid h5.second
      have ST5 := Lib.hid (ST.out.trans st5)
      have c2' : w5.cell? ⟨p1, 2, none⟩ = some (.int .i64 0) := by
        obtain ⟨T, hT, _⟩ := (Wire.third H5.out).left
        exact hT.cell 2
      clear hf5 h5 st5 c2
      go_wp2_with fail
      refine (((unary_tri p3 M 2 (by omega) (by omega) (by omega)).frame ((loc_bw _ _).sep ((Lcl.blk _ _ _).sep ((Lcl.blk _ _ _).sep Lcl.emp)))) _ _ H5.out).mono ?_
      rintro e w6 ⟨S6, hf6, st6⟩
      obtain ⟨rfl, h6⟩ := Sep.fact hf6
      have H6 := Lib.hid h6
      have ST6 := Lib.hid (ST5.out.trans st6)
      have c2 : w6.cell? ⟨p1, 2, none⟩ = some (.int .i64 0) := by
        obtain ⟨T, hT, _⟩ := (Wire.third H6.out).left
        exact hT.cell 2
      clear hf6 h6 st6 c2'
      go_wp2_with fail
      go_roundw
      case rel => exact ⟨1, S6, _, _, by omega, rfl, rfl, by simp only [List.length_append, bitsOf_length]; omega, by simp only [List.length_append, List.length_replicate, List.length_singleton]; omega, H6.out, ST6.out⟩
      case measure => simp [intOf]
    · have e0 := bl_cell hB0 0
      have e1 := bl_cell hB0 1
      have e2 := bl_cell hB0 2
      have e3 := bl_cell hB0 3
      have e4 := bl_cell hB0 4
      simp only [List.getElem?_toArray, List.getElem?_cons_zero, List.getElem?_cons_succ] at e0 e1 e2 e3 e4
      have f0 := bl_free hB0 0
      have f1 := bl_free hB0 1
      have f2 := bl_free hB0 2
      have f3 := bl_free hB0 3
      have f4 := bl_free hB0 4
      clear hB1 hB0 hpp
      go_wp2_with fail
      have hle : w.heap.size ≤ p0 := by omega
      exact bodyPost_ret (v := .tuple #[.agg #[.int .i64 0, .int .u32 0, .int .i64 0, .slice none 0 0, .slice none 0 0], .int .i64 8]) (by simp [results, Try.results17, go_sem, e0, e1, e2, e3, e4]) rfl
        ⟨rfl, ext_set (ext_set (ext_set (ext_set (ext_set HE.out hle _) hle _) hle _) hle _) hle _⟩

theorem text000 : (strOfNums [0, 0, 0]).toList == [0, 0, 0] := by rw [strOfNums_toList]; decide
set_option maxHeartbeats 4000000 in
theorem awake6 (w : World) : Calls Try.prog 15 #[] w fun e w' => e = .returned (.bool true) ∧ Below w.heap.size w w' := by
  go_enter Try.func15, Try.ntmps15
  go_wp2_with fail
  have n1 := Wire.new_writer Lcl.emp (w := w) (S := fun _ => False) (fun _ x => x)
  have H1 := Lib.hid (Sep.left_of_emp n1.1)
  have ST1 := Lib.hid n1.2
  clear n1
  generalize w.alloc (.cells #[.slice none 0 0] 35) = w1 at H1 ST1 ⊢
  generalize hq : w.heap.size = q at H1 ST1 ⊢
  refine (of_nil none 0 w1).mono ?_
  rintro e w2 ⟨rfl, hx2⟩
  have H2 := Lib.hid (Ext.keep (Wire.loc_wr _ _) hx2 H1.out)
  have ST2 := Lib.hid (Rice.stepF_of_ext ST1.out hx2)
  clear hx2 H1 ST1
  have hxa : Ext w2 (w2.alloc (.cells #[.int .i64 0, .int .u32 0, .int .i64 0, .slice none 0 0, .slice none 0 0] 29)) := (Below.refl _ _).alloc (Nat.le_refl _) _
  have H3 := Lib.hid (Sep.emp_right (Ext.keep (Wire.loc_wr _ _) hxa H2.out))
  have ST3 := Lib.hid (Rice.stepF_of_ext ST2.out hxa)
  clear hxa H2 ST2
  go_wp2_with fail
  have hp : Tri Try.prog 18 #[.agg #[.int .i64 0, .int .u32 0, .int .i64 0, .slice none 0 0, .slice none 0 0], .pointer (some ⟨q, 0, none⟩)] (Sep (Wire.Wr q []) Emp) (fun e => Fact (e = .returned (.tuple #[])) (Sep (Wire.Wr q ([] ++ rowB [])) Emp)) :=
    put_row q [] [] none none 0 0 Emp Lcl.emp (fun w S h => (fun i hi => absurd hi (Nat.not_lt_zero i))) (fun w S h => (fun i hi => absurd hi (Nat.not_lt_zero i))) (by decide) (by decide) (by decide) (by decide) (by decide)
  refine (hp _ _ H3.out).mono ?_
  clear hp
  rintro e w4 ⟨S4, ⟨rfl, h4⟩, st4⟩
  rw [rowB_nil, List.nil_append] at h4
  have H4 := Lib.hid (Sep.left_of_emp h4)
  have ST4 := Lib.hid (ST3.out.trans st4)
  clear h4 st4 H3 ST3
  go_wp2_with fail
  have hxb : Ext w4 (w4.alloc (.cells #[.int .u32 2, .int .u32 1] 26)) := (Below.refl _ _).alloc (Nat.le_refl _) _
  refine (of_21 (some ⟨w4.heap.size, 0, none⟩) _ (Row.lit 26 .u32 [2, 1] w4 (by decide)).readsAt).mono ?_
  rintro e w5 ⟨rfl, hx5⟩
  have hx45 := Ext.trans _ _ _ hxb hx5
  have hxc : Ext w5 (w5.alloc (.cells #[.int .i64 0, .int .u32 0, .int .i64 0, .slice none 0 0, .slice none 0 0] 29)) := (Below.refl _ _).alloc (Nat.le_refl _) _
  have hx46 := Ext.trans _ _ _ hx45 hxc
  have H6 := Lib.hid (Ext.keep (Wire.loc_wr _ _) hx46 H4.out)
  have ST6 := Lib.hid (Rice.stepF_of_ext ST4.out hx46)
  clear hxb hx5 hx45 hxc hx46 H4 ST4
  go_wp2_with fail
  refine (Wire.wbytes_c q [0, 0, 0] (by decide) _ _ H6.out).mono ?_
  rintro e w7 ⟨A7, c7, rfl, hr7, hx7, _⟩
  have hcv : (convert 27 9 (.slice A7 3 c7)).run Try.prog w7 = .ok (.string (strOfNums [0, 0, 0])) w7 := hr7.string (P := Try.prog) Try.underlying27 Try.underlying5 Try.underlying9 c7
  have hlit : ((strOfNums [0, 0, 0]).toList == [0, 0, 0]) = true := text000
  have HF := Lib.hid (below_of (Rice.stepF_of_ext ST6.out hx7))
  clear hr7 hx7
  go_wp2_with fail
  go_ret
  exact ⟨rfl, by rw [hq] at *; exact HF.out⟩
end Go.Proofs.Ytlmelcfiegamaaa.Fano
