/- P11.1: any numbers, each once, rising; whether one is in it, how many are below: at every input, without conditions. -/
import Derived.Test.YtolhhbnamldghaaSetCon
import Derived.Test.YtolhhbnamldghaaSetAnd
import Derived.Test.YtolhhbnamldghaaMapSet
import Derived.Test.YtolhhbnamldghaaRelyC
import Derived.Test.YtolhhbnamldghaaPSetMakesx1
namespace Go.Proofs.Ytolhhbnamldghaa.Set
open Go Go.RowKit Go.Proofs.Ytolhhbnamldghaa.Own Go.Proofs.Ytolhhbnamldghaa.Rely Go.Proofs.Ytolhhbnamldghaa.PureB Go.Proofs.YtolhhbnamldghaaW.PrintWords
open Go.Maps (Keyed)
open MapS (SetD insU)
attribute [local go_sem] max_ints min_ints

/-! ### Rank -/
def rankL (t : List Int) (n : Int) : Nat := (t.filter fun y => decide (y < n)).length
theorem rankL_le (t : List Int) (n : Int) : rankL t n ≤ t.length := List.length_filter_le _ _
theorem rank_l (s : List Int) (n : Int) (hl : s.length ≤ 1000000) : ∀ (d k i : Nat) (m : Nat), i + d = s.length → d < k → m ≤ i → PSetMakes.set_Set_Rank.l0 k n m s (s.length : Int) i = some (((m + rankL (s.drop i) n : Nat) : Int)) := by
  intro d
  induction d with
  | zero =>
    intro k i m hi hk hm
    obtain ⟨k, rfl⟩ : ∃ q, k = q + 1 := ⟨k - 1, by omega⟩
    rw [PSetMakes.set_Set_Rank.l0, if_neg (by omega), List.drop_eq_nil_of_le (by omega)]
    rfl
  | succ d ih =>
    intro k i m hi hk hm
    obtain ⟨k, rfl⟩ : ∃ q, k = q + 1 := ⟨k - 1, by omega⟩
    have hil : i < s.length := by omega
    have hdr : s.drop i = s.getD i 0 :: s.drop (i + 1) := by
      rw [List.drop_eq_getElem_cons hil]
      simp [List.getD_eq_getElem?_getD, List.getElem?_eq_getElem hil]
    have hrd : rd s (i : Int) = s.getD i 0 := rfl
    obtain ⟨x, hx⟩ : ∃ x, s.getD i 0 = x := ⟨_, rfl⟩
    rw [hx] at hdr hrd
    have i1 : (i : Int) < (s.length : Int) := by omega
    have i0 : (0 : Int) ≤ (i : Int) := by omega
    have hrk : rankL (s.drop i) n = (if x < n then 1 else 0) + rankL (s.drop (i + 1)) n := by
      rw [hdr]
      unfold rankL
      rw [List.filter_cons]
      by_cases hc : x < n
      · rw [if_pos (by simpa using hc), if_pos hc, List.length_cons]; omega
      · rw [if_neg (by simpa using hc), if_neg hc]; omega
    have hw1 : wrap64 ((m : Int) + 1) = ((m + 1 : Nat) : Int) := by unfold wrap64; omega
    have hw2 : wrap64 ((i : Int) + 1) = ((i + 1 : Nat) : Int) := by unfold wrap64; omega
    rw [PSetMakes.set_Set_Rank.l0, if_pos i1, if_pos i0, if_pos i1, hrd, hrk, hw1, hw2]
    clear hw1 hw2
    by_cases hc : x < n
    · rw [if_pos hc, if_pos hc, ih k (i + 1) (m + 1) (by omega) (by omega) (by omega)]
      congr 2; omega
    · rw [if_neg hc, if_neg hc, ih k (i + 1) m (by omega) (by omega) (by omega)]
      congr 2; omega
theorem rank_c (A : Option Addr) (c : Nat) (s : List Int) (n : Int) (w : World) (hr : Reads w .u32 A s) (hl : s.length ≤ 100000) (hc : s.length ≤ c) :
    Calls Try.prog 26 #[.slice A s.length c, .int .u32 n] w fun e w' => e = .returned (.int .i64 (rankL s n)) ∧ Ext w w' := by
  have h := rank_l s n (by omega) s.length (s.length + 1) 0 0 (by omega) (by omega) (by omega)
  rw [List.drop_zero, Nat.zero_add] at h
  refine (PSetMakes.set_Set_Rank.calls (s.length + 1) A c s n _ w (KdX.C_of_reads (by omega) hr) hc h).mono ?_
  rintro e w' ⟨rfl, hd⟩
  exact ⟨rfl, hd.below⟩
theorem rank_at : ∀ {t : List Int}, Asc t → ∀ {i : Nat}, i < t.length → rankL t (t.getD i 0) = i := by
  intro t
  induction t with
  | nil => intro _ i hi; exact absurd hi (Nat.not_lt_zero i)
  | cons x t ih =>
    intro h i hi
    have hx := (List.pairwise_cons.1 h).1
    have ht : Asc t := (List.pairwise_cons.1 h).2
    cases i with
    | zero =>
      have : (x :: t).filter (fun y => decide (y < x)) = [] := by
        rw [List.filter_eq_nil_iff]
        intro y hy
        rcases List.mem_cons.1 hy with rfl | hy
        · simp
        · have := hx y hy; simp; omega
      show ((x :: t).filter (fun y => decide (y < x))).length = 0
      rw [this]; rfl
    | succ i =>
      have hi' : i < t.length := by simpa using hi
      have he : (x :: t).getD (i + 1) 0 = t.getD i 0 := rfl
      have hlt := hx (t.getD i 0) (mem_getD.2 ⟨i, hi', rfl⟩)
      have := ih ht hi'
      unfold rankL at this ⊢
      rw [he, List.filter_cons, if_pos (by simpa using hlt), List.length_cons, this]
theorem asc_nodup {t : List Int} (h : Asc t) : t.Nodup := h.imp (fun q => by omega)

/-! ### the map -/
theorem keyed32 : Keyed Try.prog 26 := Maps.int_keyed Try.underlying26
theorem zeroB (w : World) : (zeroValue 4).run Try.prog w = .ok (.bool false) w := by kernel_rfl
abbrev OwnB32 (w : World) (b n : Nat) (D : MapS.D1) : Prop := w.ownsMap Try.prog 26 (plainElem Try.prog 4) b n D
theorem key32 {x : Int} (h : 0 ≤ x ∧ x ≤ 4294967295) : keyOf Try.prog 26 (.int .u32 x) = some (.int .u32 x) := Maps.keyOf_int_mk Try.underlying26 (by
  show (decide (0 ≤ x) && decide (x ≤ 4294967295)) = true
  simpa using h)
theorem look32 {w : World} {b n : Nat} {D : MapS.D1} {U : List Int} (h : OwnB32 w b n D) (hS : SetD .u32 D U) {x : Int} (hx : 0 ≤ x ∧ x ≤ 4294967295) :
    (Instr.lookup 49 (.map (some b)) (.int .u32 x) false).run Try.prog w = .ok (.bool (U.contains x)) w := by
  obtain ⟨v, ps, hrun, hv⟩ := h.lookup keyed32 Try.underlying49 (zeroB w) (plainElem_bool Try.underlying4 false) (key32 hx)
  rw [hS.at_] at hv
  have : v = .bool (U.contains x) := by
    unfold plainElem at hv
    rw [Try.underlying4] at hv
    cases v <;> simp at hv
    rename_i y
    rw [hv.1]; simp
  rw [hrun, this]

def cntB (t : List Int) (n : Int) (left : Lit → Bool) : Nat := (t.filter fun y => decide (y < n) && !left (.int .u32 y)).length
theorem cntB_le (t : List Int) (n : Int) (left : Lit → Bool) : cntB t n left ≤ t.length := List.length_filter_le _ _
theorem cntB_start {t U : List Int} {n : Int} {D : MapS.D1} (h : ∀ x, x ∈ U ↔ x ∈ t) (hS : SetD .u32 D U) : cntB t n (Maps.has D) = 0 := by
  unfold cntB
  rw [List.length_eq_zero_iff, List.filter_eq_nil_iff]
  intro y hy
  rw [hS.has]
  have : U.contains y = true := by simpa using (h y).2 hy
  rw [this]; simp
theorem cntB_step {t : List Int} (hn : t.Nodup) {x : Int} (hx : x ∈ t) {left : Lit → Bool} (hl : left (.int .u32 x) = true) (n : Int) : cntB t n (fun z => left z && !z.sameKey (.int .u32 x)) = cntB t n left + (if x < n then 1 else 0) := by
  have h := MapS.count_step (p := fun y => !left (.int .u32 y)) (n := n) hn hx (by simp [hl])
  unfold cntB
  rw [← h]
  congr 1
  refine List.filter_congr fun y _ => ?_
  have e : (Lit.int .u32 y).sameKey (.int .u32 x) = (y == x) := by
    by_cases hy : y = x
    · subst hy; rw [WideAt.sameKey_self (show WideAt.IsKeyLit (.int .u32 y) from trivial)]; simp
    · rw [Maps.sameKey_ne (fun q => hy (by injection q))]; simp [hy]
  simp only [e]
  cases left (.int .u32 y) <;> cases (y == x) <;> rfl
theorem invK : ∀ key kl, keyOf Try.prog 26 key = some kl → ∃ x, key = Value.int .u32 x := fun key kl h => by
  obtain ⟨x, e, _⟩ := Maps.keyOf_int_inv Try.underlying26 h
  exact ⟨x, e⟩
theorem invV : ∀ v (y : MapS.D1 × List MemPlace), plainElem Try.prog 4 v = some y → ∃ c, v = Value.bool c := fun v y h => by
  unfold plainElem at h
  rw [Try.underlying4] at h
  cases v <;> simp at h
  exact ⟨_, rfl⟩

/-- The step of a range over such a set. -/
theorem next_set {P' : Program} (hP : P' = Try.prog) (w : World) {ops : Array Oper} {rest : List Oper} {o : Oper} {a : Act} {Q : Exit → Act → World → Prop} (hg : o.guard = none) (it : Operand) (hop : o.op = Op.next it false)
    (b r n : Nat) (D : MapS.D1) (U : List Int) (hS : SetD .u32 D U) (left : Lit → Bool) (cnt : Nat) (hit : a.eval it = .pointer (some ⟨r, 0, none⟩)) (h : w.ranges Try.prog 26 (plainElem Try.prog 4) b r n D left cnt)
    (hDone : (∀ kl, left kl = false) → wpList P' ops Q rest (a.put o.dst (.tuple #[.bool false])) w)
    (hMore : ∀ (x : Int) (w' : World) (cnt' : Nat), x ∈ U → left (.int .u32 x) = true → w'.ranges Try.prog 26 (plainElem Try.prog 4) b r n D (fun z => left z && !z.sameKey (.int .u32 x)) cnt' → cnt' < cnt →
      w.grownBy w' (some r) → (Instr.entry (.pointer (some ⟨r, 0, none⟩))).run P' w' = .ok (.tuple #[.int .u32 x, .bool true]) w' → wpList P' ops Q rest (a.put o.dst (.tuple #[.bool true, .int .u32 x, .bool true])) w') : wpList P' ops Q (o :: rest) a w := by
  subst hP
  refine wpList_next_ranges w hg it hop 26 keyed32 (plainElem Try.prog 4) (Value.int .u32) Value.bool invK invV b r n D left cnt hit h (fun _ hl => hDone hl) (fun x c kl y w' cnt' hkey hlx hv hat hrg hlt hgr _ hen => ?_)
  obtain ⟨x', ex, rfl, _⟩ := Maps.keyOf_int_inv Try.underlying26 hkey
  cases ex
  have h1 := Maps.has_true_of_atKey hat
  rw [hS.has] at h1
  have hc : c = true := by
    have h2 := hat (.lit (.bool false))
    rw [hS.at_, h1] at h2
    unfold plainElem at hv
    rw [Try.underlying4] at hv
    simp at hv
    rw [← hv] at h2
    injection h2 with h2
    injection h2 with h2
    exact h2.symm
  subst hc
  exact hMore x w' cnt' (by simpa using h1) hlx hrg hlt hgr hen

set_option maxHeartbeats 16000000 in
set_option maxRecDepth 20000 in
theorem makes_wf (A : Option Addr) (c : Nat) (l : List Int) (few : Bool) (n : Int) (w : World) (h : ArgI w .u32 A c l) (hn : (Lit.int .u32 n).wf = true) :
    Calls Try.prog 6 #[.slice A l.length c, .bool few, .int .u32 n] w fun e w' => e = .returned (.bool true) ∧ Below w.heap.size w w' := by
  have HA := Lib.hid h.reads
  have HU := Lib.hid (show ∀ x ∈ l, 0 ≤ x ∧ x ≤ 4294967295 from fun x hx => wf_u32 (h.rng x hx))
  have hac := h.le
  have qn := wf_u32 hn
  clear h hn
  go_enter Try.func6, Try.ntmps6
  go_wp2_with fail
  refine (awake11 w).mono ?_
  rintro e w1 ⟨rfl, hb1⟩
  have X1 := Lib.hid (show Ext w w1 from hb1)
  clear hb1
  by_cases hla : 100 < l.length
  · have g1 : decide ((100 : Int) < (l.length : Int)) = true := by rw [decide_eq_true_iff]; omega
    go_wp2_with fail
    go_ret
    exact ⟨rfl, X1.out⟩
  have g1 : decide ((100 : Int) < (l.length : Int)) = false := by rw [decide_eq_false_iff_not]; omega
  have HOF := Lib.hid (lawof_c A c l few w1 (X1.out.reads HA.out) (by omega) hac)
  have hmm := @run_makeMap Try.prog
  go_wp2_with fail
  refine HOF.out.mono ?_
  rintro e w2 ⟨t, At, ct, rfl, ht, htl, htm, htc, htr, hx2⟩
  have X2 := Lib.hid (Ext.trans _ _ _ X1.out hx2)
  have HTA := Lib.hid ht
  have HTM := Lib.hid htm
  have HTU := Lib.hid (show ∀ x ∈ t, 0 ≤ x ∧ x ≤ 4294967295 from fun x hx => by
    have hm := (htm x).1 hx
    obtain ⟨z, hz, rfl⟩ := List.mem_map.1 hm
    have := HU.out z hz
    cases few with
    | true =>
      have e : Int.tmod z 50 = z % 50 := Int.tmod_eq_emod_of_nonneg (by omega)
      simp only [if_true]; rw [e]; omega
    | false => simpa using this)
  have HTR := Lib.hid htr
  have HA2 := Lib.hid (X2.out.reads HA.out)
  clear HOF ht htm htr hx2 X1 HA
  go_wp2_with fail
  obtain ⟨w3, hw3⟩ : ∃ w3, w2.alloc (.map #[] 0) = w3 := ⟨_, rfl⟩
  have hx23 : Ext w2 w3 := by rw [← hw3]; exact (Below.refl _ _).alloc (Nat.le_refl _) _
  obtain ⟨b, hb⟩ : ∃ b, w2.heap.size = b := ⟨_, rfl⟩
  have hown0 : OwnB32 w3 b 0 (.map []) := by
    rw [← hw3, ← hb]; exact World.ownsMap_made _ _ _ _
  rw [hw3]
  try rw [hb]
  have HOWN0 := Lib.hid hown0
  have hbs : w2.heap.size ≤ b := by omega
  clear hw3 hb hown0 hmm
  go_loopw [30] (fun v wq => ∃ (k : Nat) (D : MapS.D1) (U : List Int), k ≤ l.length ∧ v = .int .i64 k ∧ OwnB32 wq b k D ∧ SetD .u32 D U ∧ (∀ x, x ∈ U ↔ x ∈ fewL few (l.take k)) ∧ Ext w2 wq) (fun v _ => l.length - (intOf v).toNat)
  case atStart => exact ⟨0, .map [], [], by omega, rfl, HOWN0.out, SetD.nil _, (fun x => by simp [fewL]), hx23⟩
  case round =>
    obtain ⟨k, D, U, hk, rfl, hown, hS, hU, hxq⟩ := hrel
    have XQ := Lib.hid hxq
    have HS := Lib.hid hS
    have HUM := Lib.hid hU
    clear hx23 HOWN0 hxq hS hU
    by_cases hk2 : k < l.length
    · have hk4 : (k : Int) < (l.length : Int) := by omega
      obtain ⟨bb, oo, rfl, hblt, cx⟩ := (XQ.out.reads HA2.out).at hk2
      have hsn := few_snoc few l hk2
      have hux := HU.out (l.getD k 0) (by simp [List.getD_eq_getElem?_getD, List.getElem?_eq_getElem hk2])
      have hrd : rd l (k : Int) = l.getD k 0 := rfl
      rw [hrd] at hsn
      obtain ⟨x, hx⟩ : ∃ x, l.getD k 0 = x := ⟨_, rfl⟩
      rw [hx] at cx hsn hux
      clear hx hrd hblt
      cases few with
      | true =>
        obtain ⟨y, hy⟩ : ∃ y, Int.tmod x 50 = y := ⟨_, rfl⟩
        have hye : x % 50 = y := by rw [← hy, Int.tmod_eq_emod_of_nonneg (by omega)]
        have hyr : 0 ≤ y ∧ y ≤ 4294967295 := by rw [← hye]; omega
        rw [if_pos rfl, hy] at hsn
        have HSN := Lib.hid hsn
        clear hsn
        go_wp2_with (at_mapUpdate; refine wpList_mapUpdate_own _ rfl _ _ _ 49 rfl 26 4 keyed32 Try.underlying49 _ b k D rfl hown (by unfold maxLen; omega) _ _ _ rfl rfl (key32 hyr) _ [] (plainElem_bool Try.underlying4 true) ?_; intro w9 hown9 hgrow9; have HO9 := Lib.hid hown9; have HG9 := Lib.hid hgrow9; clear hown9 hgrow9)
        go_roundw
        case rel =>
          refine ⟨k + 1, D.put (.int .u32 y) (.lit (.bool true)), insU U y, by omega, by go_num, HO9.out, HS.out.put y, fun z => ?_, MapS.ext_grown XQ.out HG9.out hbs⟩
          rw [MapS.mem_insU, HUM.out, HSN.out]; simp
        case measure => simp [intOf]; omega
      | false =>
        rw [if_neg (by decide)] at hsn
        have HSN := Lib.hid hsn
        clear hsn
        go_wp2_with (at_mapUpdate; refine wpList_mapUpdate_own _ rfl _ _ _ 49 rfl 26 4 keyed32 Try.underlying49 _ b k D rfl hown (by unfold maxLen; omega) _ _ _ rfl rfl (key32 hux) _ [] (plainElem_bool Try.underlying4 true) ?_; intro w9 hown9 hgrow9; have HO9 := Lib.hid hown9; have HG9 := Lib.hid hgrow9; clear hown9 hgrow9)
        go_roundw
        case rel =>
          refine ⟨k + 1, D.put (.int .u32 x) (.lit (.bool true)), insU U x, by omega, by go_num, HO9.out, HS.out.put x, fun z => ?_, MapS.ext_grown XQ.out HG9.out hbs⟩
          rw [MapS.mem_insU, HUM.out, HSN.out]; simp
        case measure => simp [intOf]; omega
    · obtain rfl : k = l.length := by omega
      have HUT := Lib.hid (show ∀ x, x ∈ U ↔ x ∈ t from fun x => by rw [HUM.out, List.take_of_length_le (Nat.le_refl _), HTM.out])
      have hul : Maps.size D = t.length := by rw [HS.out.size]; exact MapS.same_length HS.out.nodup (asc_nodup HTA.out) HUT.out
      have hlen := hown.len Try.underlying49 3
      rw [hul] at hlen
      have k1 : checkS t = 0 := checkS_asc (by omega) HTA.out
      have HC1 := check_c At ct t wr (XQ.out.reads HTR.out) (by omega)
      rw [k1] at HC1
      have hc1 := Lib.hid HC1
      have HOW := Lib.hid hown
      clear HC1 k1 hown HUM HTM
      go_wp2_with fail
      refine hc1.out.mono ?_
      rintro e w5 ⟨rfl, hx5⟩
      have X5 := Lib.hid (Ext.trans _ _ _ XQ.out hx5)
      have HO5 := Lib.hid (MapS.owns_ext HOW.out hx5)
      clear hc1 hx5 XQ HOW hlen
      go_wp2_with fail
      go_loopw [56] (fun v wq => ∃ j : Nat, j ≤ t.length ∧ v = .int .i64 j ∧ OwnB32 wq b l.length D ∧ Ext w2 wq) (fun v _ => t.length - (intOf v).toNat)
      case atStart => exact ⟨0, by omega, rfl, HO5.out, X5.out⟩
      case round =>
        obtain ⟨j, hj, rfl, hown, hxr⟩ := hrel
        have XR := Lib.hid hxr
        have HO := Lib.hid hown
        clear hxr hown X5 HO5
        by_cases hj2 : j < t.length
        · have hj4 : (j : Int) < (t.length : Int) := by omega
          obtain ⟨bb, oo, rfl, hblt, cx⟩ := (XR.out.reads HTR.out).at hj2
          have hmem : t.getD j 0 ∈ t := mem_getD.2 ⟨j, hj2, rfl⟩
          have hrk : rankL t (t.getD j 0) = j := rank_at HTA.out hj2
          have hux := HTU.out _ hmem
          have hlk := look32 HO.out HS.out hux
          have hcu : U.contains (t.getD j 0) = true := by simpa using (HUT.out _).2 hmem
          have hct : t.contains (t.getD j 0) = true := by simpa using hmem
          rw [hcu] at hlk
          have hprev : ∀ i, j = i + 1 → t.getD i 0 < t.getD j 0 := fun i e => by rw [e]; exact asc_getD HTA.out (Nat.lt_succ_self i) (by omega)
          obtain ⟨x, hx⟩ : ∃ x, t.getD j 0 = x := ⟨_, rfl⟩
          rw [hx] at cx hmem hrk hux hlk hct hprev
          clear hx hcu
          have h1 := has_c (some ⟨bb, oo, none⟩) ct t x _ (XR.out.reads HTR.out) (by omega) htc HTA.out
          rw [hct] at h1
          have H1 := Lib.hid h1
          clear h1 hct
          by_cases j0 : j = 0
          · have d1 : decide ((0 : Int) < (j : Int)) = false := by rw [decide_eq_false_iff_not]; omega
            have d1n : decide (0 < j) = false := by rw [decide_eq_false_iff_not]; omega
            clear hprev j0
            go_wp2_with fail
            refine H1.out.mono ?_
            rintro e w6 ⟨rfl, hx6⟩
            have XR6 := Lib.hid (Ext.trans _ _ _ XR.out hx6)
            have HO6 := Lib.hid (MapS.owns_ext HO.out hx6)
            have h2 := rank_c (some ⟨bb, oo, none⟩) ct t x w6 (XR6.out.reads HTR.out) (by omega) htc
            rw [hrk] at h2
            have H2 := Lib.hid h2
            clear H1 h2 hx6 XR HO
            go_wp2_with fail
            refine H2.out.mono ?_
            rintro e w7 ⟨rfl, hx7⟩
            have XR7 := Lib.hid (Ext.trans _ _ _ XR6.out hx7)
            have HO7 := Lib.hid (MapS.owns_ext HO6.out hx7)
            clear H2 hx7 XR6 HO6
            go_wp2_with fail
            go_roundw
            case rel => exact ⟨j + 1, by omega, by go_num, HO7.out, XR7.out⟩
            case measure => simp [intOf]; omega
          · have d1 : decide ((0 : Int) < (j : Int)) = true := by rw [decide_eq_true_iff]; omega
            have d1n : decide (0 < j) = true := by rw [decide_eq_true_iff]; omega
            obtain ⟨i, hi⟩ : ∃ i, j = i + 1 := ⟨j - 1, by omega⟩
            have hji : (j : Int) - 1 = (i : Int) := by omega
            obtain ⟨bb', oo', eb, _, cy⟩ := (XR.out.reads HTR.out).at (show i < t.length by omega)
            injection eb with eb
            injection eb with eb1 eb2 _
            subst eb1 eb2
            have hlt := hprev i hi
            obtain ⟨y, hy⟩ : ∃ y, t.getD i 0 = y := ⟨_, rfl⟩
            rw [hy] at cy hlt
            have d2 : decide (x ≤ y) = false := by rw [decide_eq_false_iff_not]; omega
            have HI := Lib.hid hi
            clear hprev hy hi
            go_wp2_with fail
            refine H1.out.mono ?_
            rintro e w6 ⟨rfl, hx6⟩
            have XR6 := Lib.hid (Ext.trans _ _ _ XR.out hx6)
            have HO6 := Lib.hid (MapS.owns_ext HO.out hx6)
            have h2 := rank_c (some ⟨bb, oo, none⟩) ct t x w6 (XR6.out.reads HTR.out) (by omega) htc
            rw [hrk] at h2
            have H2 := Lib.hid h2
            clear H1 h2 hx6 XR HO
            go_wp2_with fail
            refine H2.out.mono ?_
            rintro e w7 ⟨rfl, hx7⟩
            have XR7 := Lib.hid (Ext.trans _ _ _ XR6.out hx7)
            have HO7 := Lib.hid (MapS.owns_ext HO6.out hx7)
            clear H2 hx7 XR6 HO6
            go_wp2_with fail
            go_roundw
            case rel => exact ⟨j + 1, by omega, by go_num, HO7.out, XR7.out⟩
            case measure => simp [intOf]; omega
        · obtain rfl : j = t.length := by omega
          clear hj2
          have hsz := XR.out.size
          go_wp2_with (at_range; refine wpList_range_own _ rfl _ 49 rfl 26 4 keyed32 Try.underlying49 _ b l.length D rfl HO.out ?_; intro w8 hrg8 hgr8 hsz8; have HR8 := Lib.hid hrg8; have X8 := Lib.hid (Ext.trans _ _ _ XR.out (⟨hgr8.os, hgr8.tape, hgr8.output, hgr8.size, fun i hi => hgr8.block i hi (by simp)⟩ : Ext wr w8)); clear hrg8 hgr8 hsz8)
          go_frame
          obtain ⟨gi, hgi⟩ : ∃ gi, wr.heap.size = gi := ⟨_, rfl⟩
          rw [hgi] at HR8 hsz ⊢
          clear hgi XR HO
          go_loopw [14] (fun v14 wq => ∃ (left : Lit → Bool) (cnt : Nat), wq.ranges Try.prog 26 (plainElem Try.prog 4) b gi l.length D left cnt ∧ v14 = .int .i64 (cntB t n left) ∧ Ext w2 wq) (fun _ wq => wq.rangeLeft b gi)
          case atStart => exact ⟨_, _, HR8.out, (by rw [cntB_start HUT.out HS.out]; rfl), X8.out⟩
          case round =>
            obtain ⟨left, cnt, hrg, rfl, hxr⟩ := hrel
            have XR := Lib.hid hxr
            have HRG := Lib.hid hrg
            have hrl := hrg.left_eq
            clear hxr hrg HR8 X8
            go_wp2_with (first | (at_next; refine next_set rfl _ rfl _ rfl b gi l.length D U HS.out left cnt rfl HRG.out ?_ ?_) | go_in)
            · intro hl0
              have hcr : cntB t n left = rankL t n := by
                unfold cntB rankL
                congr 1
                refine List.filter_congr fun y _ => ?_
                rw [hl0]; simp
              rw [hcr]
              have HO := Lib.hid (show OwnB32 wr b l.length D from HRG.out.owns)
              have hlk := fun w' (x : Ext wr w') => look32 (MapS.owns_ext HO.out x) HS.out qn
              have hcu : U.contains n = t.contains n := by
                rw [Bool.eq_iff_iff]; simp only [List.contains_eq_mem, decide_eq_true_eq]; exact HUT.out n
              rw [hcu] at hlk
              have HLK := Lib.hid hlk
              have hrt := rankL_le t n
              obtain ⟨rk, hrk⟩ : ∃ rk, rankL t n = rk := ⟨_, rfl⟩
              have HCH := Lib.hid (fun w' (x : Ext wr w') => has_c At ct t n w' ((Ext.trans _ _ _ XR.out x).reads HTR.out) (by omega) htc HTA.out)
              have HCR := Lib.hid (fun w' (x : Ext wr w') => rank_c At ct t n w' ((Ext.trans _ _ _ XR.out x).reads HTR.out) (by omega) htc)
              obtain ⟨hv, hhv⟩ : ∃ hv, t.contains n = hv := ⟨_, rfl⟩
              rw [hrk] at HCR hrt ⊢
              rw [hhv] at HLK HCH
              clear hl0 hlk hcu hcr hrk hhv HRG hrl HO
              go_wp2_with fail
              refine wp_region_next (by kernel_rfl) ?_
              refine next_win 0 15 Ext Ext 999 0 (fun _ _ h => h) Ext.refl Ext.trans Ext.refl Ext.trans [[(7, none)], [(2, none)], [(103, some 0), (104, some 1)], [(9, none)], [(2, none)], [(106, some 3), (107, some 4)], [(105, some 2), (108, some 5)], [(109, some 6)], [(7, none)], [(2, none)], [(111, some 8), (112, some 9)], [(14, none)], [(113, some 10), (114, some 11)], [(110, some 7), (115, some 12)], [(116, some 13)]] [some 103, some 104, some 105, some 106, some 107, some 108, some 109, some 110, some 111, some 112, some 113, some 114, some 115, some 116, some 6] (by kernel_rfl) (by kernel_rfl) (by kernel_rfl) (by kernel_rfl) ?_
              intro Nx hNx
              -- 0: slot 103 := Op.move (t7)
              apply relyD_const (by decide) (by decide); case h => (intro wr hR a' h7 K hK; go_wp2_with fail; exact Ext.refl _)
              -- 1: slot 104 := Op.move (t2)
              apply relyD_const (by decide) (by decide); case h => (intro wr hR a' h2 K hK; go_wp2_with fail; exact Ext.refl _)
              -- 2: slot 105 := Op.call { callee := Callee.value (Operand.func 25), args := #[t103, t104], argTypes := #[25, 26] }
              refine relyD_const (by decide) (by decide) (.bool hv) ?h2 ?_
              case h2 =>
                intro wt hR a' h103 h104 K hK
                have HC1 := Lib.hid (HCH.out wt hR.undrew)
                go_wp2_with fail
                refine HC1.out.mono ?_
                rintro e w20 ⟨rfl, hb⟩
                go_wp2_with fail
                exact hb
              -- 3: slot 106 := Op.move (t9)
              apply relyD_const (by decide) (by decide); case h => (intro wr hR a' h9 K hK; go_wp2_with fail; exact Ext.refl _)
              -- 4: slot 107 := Op.move (t2)
              apply relyD_const (by decide) (by decide); case h => (intro wr hR a' h2 K hK; go_wp2_with fail; exact Ext.refl _)
              -- 5: slot 108 := Op.lookup 49 (t106) (t107) false
              apply relyD_const (by decide) (by decide); case h => (intro wr hR a' h106 h107 K hK; have hlk := HLK.out _ hR.undrew; go_wp2_with fail; exact Ext.refl _)
              -- 6: slot 109 := Op.binOp BinOp.eql 4 (t105) (t108) 4
              apply relyD_const (by decide) (by decide); case h => (intro wr hR a' h105 h108 K hK; go_wp2_with fail; exact Ext.refl _)
              -- 7: slot 110 := Op.move (t109)
              apply relyD_const (by decide) (by decide); case h => (intro wr hR a' h109 K hK; go_wp2_with fail; exact Ext.refl _)
              -- 8: slot 111 := Op.move (t7) GUARD 7 true
              apply relyD_const_in (by decide) (by decide) _ rfl; case h => (intro wr hR a' h7 K hK; go_wp2_with fail; exact Ext.refl _)
              -- 9: slot 112 := Op.move (t2) GUARD 7 true
              apply relyD_const_in (by decide) (by decide) _ rfl; case h => (intro wr hR a' h2 K hK; go_wp2_with fail; exact Ext.refl _)
              -- 10: slot 113 := Op.call { callee := Callee.value (Operand.func 26), args := #[t111, t112], argTypes := #[25, 26] } GUARD 7 true
              refine relyD_const_in (by decide) (by decide) (.int .i64 rk) rfl ?h10 ?_
              case h10 =>
                intro wt hR a' h111 h112 K hK
                have HC1 := Lib.hid (HCR.out wt hR.undrew)
                go_wp2_with fail
                refine HC1.out.mono ?_
                rintro e w20 ⟨rfl, hb⟩
                go_wp2_with fail
                exact hb
              -- 11: slot 114 := Op.move (t14) GUARD 7 true
              apply relyD_const_in (by decide) (by decide) _ rfl; case h => (intro wr hR a' h14 K hK; go_wp2_with fail; exact Ext.refl _)
              -- 12: slot 115 := Op.binOp BinOp.eql 3 (t113) (t114) 3 GUARD 7 true
              apply relyD_const_in (by decide) (by decide) _ rfl; case h => (intro wr hR a' h113 h114 K hK; go_wp2_with fail; exact Ext.refl _)
              -- 13: slot 116 := Op.pick (t110) (t115) (Operand.const (Value.bool false))
              apply relyD_const (by decide) (by decide); case h => (intro wr hR a' h110 h115 K hK; go_wp2_with fail; exact Ext.refl _)
              -- 14: slot 6 := Op.assign (t116)
              apply relyD_const (by decide) (by decide); case h => (intro wr hR a' h116 K hK; go_wp2_with fail; exact Ext.refl _)
              refine relyD_end ?_
              intro wt hR
              simp only [had, List.take_succ_cons, List.take_zero, List.map_cons, List.map_nil, List.cons_append, List.nil_append, ends, Act.put, List.setIfInBounds_toArray, List.set_cons_zero, List.set_cons_succ]
              refine hNx _ _ ?_
              refine next_done rfl ?_
              try simp only [Act.put, List.setIfInBounds_toArray, List.set_cons_zero, List.set_cons_succ]
              go_wp2_with fail
              go_ret
              exact ⟨rfl, Ext.trans _ _ _ X2.out (Ext.trans _ _ _ XR.out hR.undrew)⟩
            · intro x w9 cnt9 hmu hlx hrg9 hlt9 hg9 hen
              have hmem : x ∈ t := (HUT.out x).1 hmu
              have hcs := cntB_step (asc_nodup HTA.out) hmem hlx n
              have HX9 := Lib.hid (MapS.ext_grown XR.out hg9 hsz)
              have HR9 := Lib.hid hrg9
              have hrl9 := hrg9.left_eq
              have hcl := cntB_le t n left
              clear hrg9 hg9 hmem hmu HRG
              by_cases hxn : x < n
              · have d1 : decide (x < n) = true := by simpa using hxn
                rw [if_pos hxn] at hcs
                have HCS := Lib.hid hcs
                clear hcs
                go_wp2_with fail
                go_roundw
                case rel => exact ⟨_, cnt9, HR9.out, by rw [HCS.out]; go_num, HX9.out⟩
                case measure => rw [hrl9, hrl]; exact hlt9
              · have d1 : decide (x < n) = false := by simpa using hxn
                rw [if_neg hxn] at hcs
                have HCS := Lib.hid hcs
                clear hcs
                go_wp2_with fail
                go_roundw
                case rel => exact ⟨_, cnt9, HR9.out, by rw [HCS.out]; rfl, HX9.out⟩
                case measure => rw [hrl9, hrl]; exact hlt9
end Go.Proofs.Ytolhhbnamldghaa.Set
