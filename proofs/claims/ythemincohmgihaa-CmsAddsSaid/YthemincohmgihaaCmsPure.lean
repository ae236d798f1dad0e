/- What the counters of chapter 15 compute, as functions of rows: adding a hash raises one count of each row; the most is the least of these. Conditions: rows 1 to 8, columns 1 to 256. -/
import Derived.Test.YthemincohmgihaaPCmsMergesx3
import Derived.Test.YthemincohmgihaaBit
namespace Go.Proofs.Ythemincohmgihaa.PCmsMerges
open Go Go.RowKit Go.Proofs.YthemincohmgihaaW.PrintWords

/-- Two counts as one, that stops at the greatest. -/
def pls (a b : Int) : Int := if a + b ≤ 4294967295 then a + b else 4294967295
theorem pls0 {a b : Int} (ha : 0 ≤ a) (hb : 0 ≤ b) : 0 ≤ pls a b := by unfold pls; split <;> omega
theorem pls1 (a b : Int) : pls a b ≤ 4294967295 := by unfold pls; split <;> omega
theorem plus_f {a b : Int} (ha : 0 ≤ a) (ha' : a ≤ 4294967295) (hb : 0 ≤ b) (hb' : b ≤ 4294967295) : cms_Plus.f a b = some (pls a b) := by
  unfold cms_Plus.f pls
  by_cases h : a + b ≤ 4294967295
  · rw [if_pos (by omega), if_pos h]; congr 1; omega
  · rw [if_neg (by omega), if_neg h]
theorem awake_f : herbariumlaw15_Awake.f = some true := by decide +kernel

/-- The column of a hash in a row, as the code reckons it. -/
def pl (C h r : Int) : Int := wrap64 (Int.tmod (Go.bits .xor .u64 (IntKind.u64.wrap ((IntKind.u64.wrap ((h / 4294967296) * (IntKind.u64.wrap (wrap64 ((wrap64 (2 * r)) + 1))))) + (Go.bits .and .u64 h 4294967295))) ((IntKind.u64.wrap ((IntKind.u64.wrap ((h / 4294967296) * (IntKind.u64.wrap (wrap64 ((wrap64 (2 * r)) + 1))))) + (Go.bits .and .u64 h 4294967295))) / 131072)) C)
theorem pl_range {C : Int} (h r : Int) (c0 : 1 ≤ C) (c1 : C ≤ 256) : 0 ≤ pl C h r ∧ pl C h r < C := by
  unfold pl
  rw [Bit.xor64]
  generalize (BitVec.toNat _) = x
  have h1 : Int.tmod (x : Int) C = (x : Int) % C := Int.tmod_eq_emod_of_nonneg (by omega)
  have h2 := Int.emod_nonneg (x : Int) (b := C) (by omega)
  have h3 := Int.emod_lt_of_pos (x : Int) (b := C) (by omega)
  rw [h1]
  have h4 : wrap64 ((x : Int) % C) = (x : Int) % C := by unfold wrap64; omega
  rw [h4]
  exact ⟨h2, h3⟩
theorem place_f {C : Int} (R : Int) (L : List Int) (h r : Int) (c0 : 1 ≤ C) (c1 : C ≤ 256) : cms_Cms_Place.f R C L h r = some (pl C h r) := by
  have hm : mx C 1 = C := by unfold mx; omega
  have hw : IntKind.u64.wrap C = C := by rw [Bit.wrap64]; omega
  unfold cms_Cms_Place.f
  rw [hm, hw, if_neg (by omega)]
  rfl

/-- A sketch's row of counts. -/
structure Good (R C : Nat) (L : List Int) : Prop where
  r0 : 1 ≤ R
  r1 : R ≤ 8
  c0 : 1 ≤ C
  c1 : C ≤ 256
  len : L.length = R * C
  low : ∀ x ∈ L, 0 ≤ x
  high : ∀ x ∈ L, x ≤ 4294967295

theorem Good.rc {R C : Nat} {L : List Int} (g : Good R C L) : R * C ≤ 2048 := by
  have h := Nat.mul_le_mul g.r1 g.c1
  simpa using h
theorem Good.range {R C : Nat} {L : List Int} (g : Good R C L) (i : Int) : 0 ≤ rd L i ∧ rd L i ≤ 4294967295 := by
  unfold rd
  by_cases h : i.toNat < L.length
  · rw [List.getD_eq_getElem?_getD, List.getElem?_eq_getElem h]
    exact ⟨g.low _ (List.getElem_mem h), g.high _ (List.getElem_mem h)⟩
  · rw [List.getD_eq_getElem?_getD, List.getElem?_eq_none (by omega)]
    exact ⟨by simp, by simp⟩

theorem check_f {R C : Nat} {L : List Int} (g : Good R C L) (k : Nat) (hk : 1 ≤ k) : cms_Cms_Check.f k R C L = some 0 := by
  obtain ⟨k, rfl⟩ : ∃ m, k = m + 1 := ⟨k - 1, by omega⟩
  have h1 := g.r0; have h2 := g.r1; have h3 := g.c0; have h4 := g.c1; have h5 := g.rc
  have hw : wrap64 ((R : Int) * (C : Int)) = ((R * C : Nat) : Int) := by
    rw [← Int.natCast_mul]; unfold wrap64; omega
  unfold cms_Cms_Check.f
  rw [if_neg (by omega), if_neg (by omega), if_neg (by omega)]
  simp only [cms_Cms_Check.j0]
  rw [decide_eq_false (by omega), if_neg (by simp), hw, g.len, if_pos rfl]

/-- Whether a hash is counted at a place. -/
def hit (C : Nat) (h : Int) (i : Nat) : Bool := ((i % C : Nat) : Int) == pl C h ((i / C : Nat) : Int)
def addTo (C : Nat) (h n : Int) (r : Nat) (L : List Int) : List Int := L.mapIdx fun i x => if i < r * C && hit C h i then pls x n else x
def addAll (C : Nat) (h n : Int) (L : List Int) : List Int := L.mapIdx fun i x => if hit C h i then pls x n else x

theorem addTo_get (C : Nat) (h n : Int) (r : Nat) (L : List Int) (i : Nat) : (addTo C h n r L)[i]? = (L[i]?).map fun x => if i < r * C && hit C h i then pls x n else x := by
  unfold addTo; rw [List.getElem?_mapIdx]
theorem addAll_get (C : Nat) (h n : Int) (L : List Int) (i : Nat) : (addAll C h n L)[i]? = (L[i]?).map fun x => if hit C h i then pls x n else x := by
  unfold addAll; rw [List.getElem?_mapIdx]
theorem addTo_zero (C : Nat) (h n : Int) (L : List Int) : addTo C h n 0 L = L := by
  apply List.ext_getElem?
  intro i
  rw [addTo_get]
  cases L[i]? <;> simp
theorem addTo_all {R C : Nat} {L : List Int} (g : Good R C L) (h n : Int) : addTo C h n R L = addAll C h n L := by
  apply List.ext_getElem?
  intro i
  rw [addTo_get, addAll_get]
  by_cases hi : i < L.length
  · have : i < R * C := by have := g.len; omega
    simp only [this, decide_true, Bool.true_and]
  · rw [List.getElem?_eq_none (by omega)]; simp only [Option.map_none]
theorem addAll_length (C : Nat) (h n : Int) (L : List Int) : (addAll C h n L).length = L.length := by unfold addAll; simp
theorem addTo_length (C : Nat) (h n : Int) (r : Nat) (L : List Int) : (addTo C h n r L).length = L.length := by unfold addTo; simp

theorem place_nat {R C : Nat} {L : List Int} (g : Good R C L) (h : Int) {r : Nat} (hr : r < R) :
    ∃ p : Nat, pl C h r = p ∧ p < C ∧ r * C + p < L.length ∧ wrap64 (wrap64 ((r : Int) * (C : Int)) + pl C h r) = ((r * C + p : Nat) : Int) := by
  have hp := pl_range (C := (C : Int)) h r (by have := g.c0; omega) (by have := g.c1; omega)
  obtain ⟨p, hpe⟩ := Int.eq_ofNat_of_zero_le hp.1
  have hpC : p < C := by omega
  have h1 : r * C + p < (r + 1) * C := by rw [Nat.add_mul]; omega
  have h2 : (r + 1) * C ≤ R * C := Nat.mul_le_mul_right C hr
  have h3 := g.rc
  have h4 := g.len
  refine ⟨p, hpe, hpC, by omega, ?_⟩
  rw [hpe, ← Int.natCast_mul]
  have h5 : wrap64 ((r * C : Nat) : Int) = ((r * C : Nat) : Int) := by unfold wrap64; omega
  rw [h5]
  unfold wrap64; omega

theorem hit_at {C : Nat} (h : Int) {r p i : Nat} (hp : pl C h r = p) (hpC : p < C) (h1 : r * C ≤ i) (h2 : i < (r + 1) * C) : hit C h i = decide (i = r * C + p) := by
  have hd : i / C = r := by
    apply Nat.div_eq_of_lt_le
    · exact h1
    · exact h2
  have hm : i % C = i - r * C := by
    have := Nat.div_add_mod i C
    rw [hd, Nat.mul_comm] at this
    omega
  unfold hit
  rw [hd, hp, hm]
  by_cases e : i = r * C + p
  · simp [e]
  · have : ¬ (i - r * C = p) := by omega
    simp [e]
    omega

theorem addTo_step {R C : Nat} {L : List Int} (g : Good R C L) (h n : Int) {r p : Nat} (_hr : r < R) (hp : pl C h r = p) (hpC : p < C) :
    (addTo C h n r L).set (r * C + p) (pls (rd (addTo C h n r L) ((r * C + p : Nat) : Int)) n) = addTo C h n (r + 1) L := by
  apply List.ext_getElem?
  intro i
  rw [List.getElem?_set, addTo_get, addTo_get, addTo_length]
  have hlt : r * C + p < (r + 1) * C := by rw [Nat.add_mul]; omega
  by_cases e : r * C + p = i
  · subst e
    rw [if_pos rfl]
    have hh : hit C h (r * C + p) = true := by rw [hit_at h hp hpC (by omega) hlt]; simp
    have hv : rd (addTo C h n r L) ((r * C + p : Nat) : Int) = L.getD (r * C + p) 0 := by
      unfold rd
      rw [Int.toNat_natCast, List.getD_eq_getElem?_getD, addTo_get, List.getD_eq_getElem?_getD]
      cases L[r * C + p]? with
      | none => rfl
      | some x => rw [Option.map_some, decide_eq_false (show ¬ (r * C + p < r * C) by omega)]; rfl
    rw [hv, hh]
    by_cases hl : r * C + p < L.length
    · rw [if_pos hl, List.getElem?_eq_getElem hl, List.getD_eq_getElem?_getD, List.getElem?_eq_getElem hl]
      simp [hlt]
    · rw [if_neg hl, List.getElem?_eq_none (by omega)]; simp only [Option.map_none]
  · rw [if_neg e]
    have : (decide (i < r * C) && hit C h i) = (decide (i < (r + 1) * C) && hit C h i) := by
      by_cases h1 : i < r * C
      · have h2 : i < (r + 1) * C := by rw [Nat.add_mul]; omega
        simp [h1, h2]
      · by_cases h2 : i < (r + 1) * C
        · rw [hit_at h hp hpC (by omega) h2, decide_eq_false (show ¬ (i = r * C + p) by omega)]
          simp
        · simp [h1, h2]
    rw [this]

theorem good_add {R C : Nat} {L : List Int} (g : Good R C L) (h n : Int) (n0 : 0 ≤ n) : Good R C (addAll C h n L) := by
  refine ⟨g.r0, g.r1, g.c0, g.c1, (addAll_length ..).trans g.len, ?_, ?_⟩
  · intro x hx
    obtain ⟨i, hi⟩ := List.mem_iff_getElem?.1 hx
    rw [addAll_get] at hi
    cases hL : L[i]? with
    | none => rw [hL] at hi; cases hi
    | some y =>
      rw [hL] at hi
      have hy := List.mem_of_getElem? hL
      have := g.low y hy
      simp only [Option.map_some, Option.some.injEq] at hi
      subst hi
      split
      · exact pls0 this n0
      · exact this
  · intro x hx
    obtain ⟨i, hi⟩ := List.mem_iff_getElem?.1 hx
    rw [addAll_get] at hi
    cases hL : L[i]? with
    | none => rw [hL] at hi; cases hi
    | some y =>
      rw [hL] at hi
      have hy := List.mem_of_getElem? hL
      have := g.high y hy
      simp only [Option.map_some, Option.some.injEq] at hi
      subst hi
      split
      · exact pls1 _ _
      · exact this
theorem good_to {R C : Nat} {L : List Int} (g : Good R C L) (h n : Int) (n0 : 0 ≤ n) (r : Nat) : Good R C (addTo C h n r L) := by
  refine ⟨g.r0, g.r1, g.c0, g.c1, (addTo_length ..).trans g.len, ?_, ?_⟩
  · intro x hx
    obtain ⟨i, hi⟩ := List.mem_iff_getElem?.1 hx
    rw [addTo_get] at hi
    cases hL : L[i]? with
    | none => rw [hL] at hi; cases hi
    | some y =>
      rw [hL] at hi
      have hy := List.mem_of_getElem? hL
      have := g.low y hy
      simp only [Option.map_some, Option.some.injEq] at hi
      subst hi
      split
      · exact pls0 this n0
      · exact this
  · intro x hx
    obtain ⟨i, hi⟩ := List.mem_iff_getElem?.1 hx
    rw [addTo_get] at hi
    cases hL : L[i]? with
    | none => rw [hL] at hi; cases hi
    | some y =>
      rw [hL] at hi
      have hy := List.mem_of_getElem? hL
      have := g.high y hy
      simp only [Option.map_some, Option.some.injEq] at hi
      subst hi
      split
      · exact pls1 _ _
      · exact this

theorem add_loop {R C : Nat} {L : List Int} (g : Good R C L) (h n : Int) (n0 : 0 ≤ n) (n1 : n ≤ 4294967295) (d : Nat) : ∀ (k r : Nat), r + d = R → d < k →
    cms_Cms_Add.l0 k h n R r R C L R C (addTo C h n r L) = some ((R : Int), (C : Int), addTo C h n R L) := by
  induction d with
  | zero =>
    intro k r hr hk
    obtain ⟨k, rfl⟩ : ∃ m, k = m + 1 := ⟨k - 1, by omega⟩
    simp only [cms_Cms_Add.l0]
    rw [if_neg (by omega)]
    have : r = R := by omega
    rw [this]
  | succ d ih =>
    intro k r hr hk
    obtain ⟨k, rfl⟩ : ∃ m, k = m + 1 := ⟨k - 1, by omega⟩
    have q1 : r + 1 + d = R := by omega
    have q2 : d < k := by omega
    have q3 : r < R := by omega
    have hr1 : wrap64 ((r : Int) + 1) = ((r + 1 : Nat) : Int) := by have := g.r1; unfold wrap64; omega
    obtain ⟨p, hp, hpC, hlt, hw⟩ := place_nat g h q3
    have gt := good_to g h n n0 r
    have hrd := gt.range ((r * C + p : Nat) : Int)
    simp only [cms_Cms_Add.l0]
    rw [if_pos (by omega), place_f R L h r (by have := g.c0; omega) (by have := g.c1; omega)]
    rw [Option.bind_some]
    have e1 : (0 : Int) ≤ ((r * C + p : Nat) : Int) := Int.natCast_nonneg _
    have e2 : ((r * C + p : Nat) : Int) < ((addTo C h n r L).length : Int) := by rw [addTo_length]; exact Int.ofNat_lt.2 hlt
    rw [hw, if_pos e1, if_pos e2, plus_f hrd.1 hrd.2 n0 n1]
    rw [Option.bind_some]
    rw [Int.toNat_natCast, addTo_step g h n q3 hp hpC, hr1]
    exact ih k (r + 1) q1 q2

theorem add_f {R C : Nat} {L : List Int} (g : Good R C L) (h n : Int) (n0 : 0 ≤ n) (n1 : n ≤ 4294967295) (k : Nat) (hk : 10 ≤ k) :
    cms_Cms_Add.f k R C L h n = some ((R : Int), (C : Int), addAll C h n L) := by
  have h1 := g.rc
  have h2 := g.len
  unfold cms_Cms_Add.f
  simp only [Option.bind_some, List.length_nil, List.nil_append, Nat.zero_add]
  rw [if_pos (by omega), check_f g k (by omega)]
  simp only [Option.bind_some, if_true]
  have hl := add_loop g h n n0 n1 R k 0 (by omega) (by have := g.r1; omega)
  rw [addTo_zero, addTo_all g] at hl
  exact hl

/-- What was seen: how much is counted at a place, all in all. -/
def cnt (C : Nat) (i : Nat) : List S54 → Int
  | [] => 0
  | s :: l => (if hit C s.f0 i then s.f1 else 0) + cnt C i l
def Okay (l : List S54) : Prop := ∀ s ∈ l, 0 ≤ s.f1 ∧ s.f1 ≤ 4294967295
theorem cnt0 {C i : Nat} : ∀ {l : List S54}, Okay l → 0 ≤ cnt C i l
  | [], _ => Int.le_refl 0
  | s :: l, h => by
    have h1 := h s List.mem_cons_self
    have h2 := cnt0 (C := C) (i := i) (l := l) fun x hx => h x (List.mem_cons_of_mem _ hx)
    unfold cnt; split <;> omega
theorem cnt_append {C i : Nat} (l m : List S54) : cnt C i (l ++ m) = cnt C i l + cnt C i m := by
  induction l with
  | nil => simp [cnt]
  | cons s l ih => simp only [List.cons_append, cnt, ih]; omega
def upto (x : Int) : Int := if x ≤ 4294967295 then x else 4294967295
def sketch (R C : Nat) (l : List S54) : List Int := (List.range (R * C)).map fun i => upto (cnt C i l)
theorem good_sketch {R C : Nat} (r0 : 1 ≤ R) (r1 : R ≤ 8) (c0 : 1 ≤ C) (c1 : C ≤ 256) {l : List S54} (h : Okay l) : Good R C (sketch R C l) := by
  refine ⟨r0, r1, c0, c1, by simp [sketch], ?_, ?_⟩
  · intro x hx
    obtain ⟨i, _, rfl⟩ := List.mem_map.1 hx
    have := cnt0 (C := C) (i := i) h
    unfold upto; split <;> omega
  · intro x hx
    obtain ⟨i, _, rfl⟩ := List.mem_map.1 hx
    unfold upto; split <;> omega
theorem sketch_get {R C : Nat} {l : List S54} (i : Nat) : (sketch R C l)[i]? = if i < R * C then some (upto (cnt C i l)) else none := by
  unfold sketch
  rw [List.getElem?_map]
  by_cases h : i < R * C
  · rw [List.getElem?_range h, if_pos h]; rfl
  · rw [List.getElem?_eq_none (by simp; omega), if_neg h]; rfl
theorem upto_pls {x n : Int} (h0 : 0 ≤ x) (n0 : 0 ≤ n) : pls (upto x) n = upto (x + n) := by
  unfold pls upto
  by_cases h1 : x ≤ 4294967295 <;> by_cases h2 : x + n ≤ 4294967295 <;> simp only [h1, h2, if_true, if_false] <;> (try split) <;> omega
theorem sketch_snoc {R C : Nat} {l : List S54} (hl : Okay l) (s : S54) (hs : 0 ≤ s.f1) : addAll C s.f0 s.f1 (sketch R C l) = sketch R C (l ++ [s]) := by
  apply List.ext_getElem?
  intro i
  rw [addAll_get, sketch_get, sketch_get]
  by_cases h : i < R * C
  · rw [if_pos h, if_pos h, cnt_append]
    simp only [Option.map_some, cnt]
    have h0 := cnt0 (C := C) (i := i) hl
    split
    · rw [upto_pls h0 hs]; simp
    · simp
  · rw [if_neg h, if_neg h]; rfl
theorem sketch_nil (R C : Nat) : sketch R C [] = List.replicate (R * C) 0 := by
  apply List.ext_getElem?
  intro i
  rw [sketch_get, List.getElem?_replicate]
  rfl

theorem new_f {R C : Nat} (r0 : 1 ≤ R) (r1 : R ≤ 8) (c0 : 1 ≤ C) (c1 : C ≤ 256) : cms_New.f R C = some ((R : Int), (C : Int), sketch R C [], true) := by
  have h := Nat.mul_le_mul r1 c1
  have hw : wrap64 ((R : Int) * (C : Int)) = ((R * C : Nat) : Int) := by
    rw [← Int.natCast_mul]; unfold wrap64; omega
  unfold cms_New.f
  rw [if_neg (by omega), if_neg (by omega), if_neg (by omega), if_neg (by omega), hw, if_pos (by omega), if_pos (by omega), Int.toNat_natCast, sketch_nil]

theorem cms_loop {R C : Nat} (r0 : 1 ≤ R) (r1 : R ≤ 8) (c0 : 1 ≤ C) (c1 : C ≤ 256) {l : List S54} (hl : Okay l) (hn : l.length ≤ 1000) (d : Nat) : ∀ (k i : Nat), i + d = l.length → d + 11 < k →
    herbariumlaw15_Cms.l0 k l l.length i R C (sketch R C (l.take i)) = some ((R : Int), (C : Int), sketch R C l) := by
  induction d with
  | zero =>
    intro k i hi hk
    obtain ⟨k, rfl⟩ : ∃ m, k = m + 1 := ⟨k - 1, by omega⟩
    simp only [herbariumlaw15_Cms.l0]
    rw [if_neg (by omega), List.take_of_length_le (by omega)]
  | succ d ih =>
    intro k i hi hk
    obtain ⟨k, rfl⟩ : ∃ m, k = m + 1 := ⟨k - 1, by omega⟩
    have hlt : i < l.length := by omega
    have hs := hl _ (List.getElem_mem hlt)
    have ht : Okay (l.take i) := fun s hs => hl s (List.mem_of_mem_take hs)
    have hr : rd_T54 l i = l[i] := by
      unfold rd_T54
      rw [Int.toNat_natCast, List.getD_eq_getElem?_getD, List.getElem?_eq_getElem hlt]; rfl
    simp only [herbariumlaw15_Cms.l0]
    rw [if_pos (by omega), if_pos (by omega), if_pos (by omega), hr, add_f (good_sketch r0 r1 c0 c1 ht) _ _ hs.1 hs.2 k (by omega)]
    simp only [Option.bind_some]
    rw [sketch_snoc ht _ hs.1]
    have hr1 : wrap64 ((i : Int) + 1) = ((i + 1 : Nat) : Int) := by unfold wrap64; omega
    have htk : l.take i ++ [l[i]] = l.take (i + 1) := by rw [List.take_add_one, List.getElem?_eq_getElem hlt]; rfl
    rw [hr1, htk]
    exact ih k (i + 1) (by omega) (by omega)

/-- The law's sketch: rows and columns by two bytes. -/
def rowsOf (a : Int) : Nat := 1 + (a % 8).toNat
def colsOf (a : Int) : Nat := 1 + (a % 40).toNat
theorem rows_1 (a : Int) : 1 ≤ rowsOf a := by unfold rowsOf; omega
theorem rows_8 (a : Int) : rowsOf a ≤ 8 := by unfold rowsOf; omega
theorem cols_1 (a : Int) : 1 ≤ colsOf a := by unfold colsOf; omega
theorem cols_40 (a : Int) : colsOf a ≤ 40 := by unfold colsOf; omega
theorem cols_256 (a : Int) : colsOf a ≤ 256 := by unfold colsOf; omega
theorem cms_f {a b : Int} (a0 : 0 ≤ a) (b0 : 0 ≤ b) {l : List S54} (hl : Okay l) (hn : l.length ≤ 1000) (k : Nat) (hk : l.length + 11 < k) :
    herbariumlaw15_Cms.f k a b l = some ((rowsOf a : Int), (colsOf b : Int), sketch (rowsOf a) (colsOf b) l) := by
  have h1 : wrap64 (1 + (wrap64 (Int.tmod a 8))) = (rowsOf a : Int) := by
    rw [Int.tmod_eq_emod_of_nonneg a0]; unfold wrap64 rowsOf; omega
  have h2 : wrap64 (1 + (wrap64 (Int.tmod b 40))) = (colsOf b : Int) := by
    rw [Int.tmod_eq_emod_of_nonneg b0]; unfold wrap64 colsOf; omega
  unfold herbariumlaw15_Cms.f
  rw [h1, h2, new_f (rows_1 a) (rows_8 a) (cols_1 b) (cols_256 b)]
  simp only [Option.bind_some]
  exact cms_loop (rows_1 a) (rows_8 a) (cols_1 b) (cols_256 b) hl hn l.length k 0 (by omega) (by omega)

theorem same_loop {R C : Nat} {L M : List Int} (hL : L.length = M.length) (hn : L.length ≤ 100000) (P : Int) (Q : Int) (d : Nat) : ∀ (k i : Nat), i + d = L.length → d < k → (∀ j, j < i → L[j]? = M[j]?) →
    cms_Same.l0 k L.length i R C L P Q M = some (decide (L = M)) := by
  induction d with
  | zero =>
    intro k i hi hk he
    obtain ⟨k, rfl⟩ : ∃ m, k = m + 1 := ⟨k - 1, by omega⟩
    simp only [cms_Same.l0]
    rw [if_neg (by omega)]
    have : L = M := by
      apply List.ext_getElem?
      intro j
      by_cases hj : j < i
      · exact he j hj
      · rw [List.getElem?_eq_none (by omega), List.getElem?_eq_none (by omega)]
    rw [decide_eq_true this]
  | succ d ih =>
    intro k i hi hk he
    obtain ⟨k, rfl⟩ : ∃ m, k = m + 1 := ⟨k - 1, by omega⟩
    have h1 : i < L.length := by omega
    have h2 : i < M.length := by omega
    have e1 : rd L i = L[i] := by unfold rd; rw [Int.toNat_natCast, List.getD_eq_getElem?_getD, List.getElem?_eq_getElem h1]; rfl
    have e2 : rd M i = M[i] := by unfold rd; rw [Int.toNat_natCast, List.getD_eq_getElem?_getD, List.getElem?_eq_getElem h2]; rfl
    simp only [cms_Same.l0]
    rw [if_pos (by omega), if_pos (by omega), if_pos (by omega), if_pos (by omega), e1, e2]
    by_cases e : L[i] = M[i]
    · rw [if_pos e]
      have hr1 : wrap64 ((i : Int) + 1) = ((i + 1 : Nat) : Int) := by unfold wrap64; omega
      rw [hr1]
      refine ih k (i + 1) (by omega) (by omega) fun j hj => ?_
      by_cases hj' : j < i
      · exact he j hj'
      · have : j = i := by omega
        subst this
        rw [List.getElem?_eq_getElem h1, List.getElem?_eq_getElem h2, e]
    · rw [if_neg e, decide_eq_false]
      rintro rfl
      exact e rfl
theorem same_f {R C : Nat} {L M : List Int} (gL : L.length = R * C) (gM : M.length = R * C) (hn : L.length ≤ 100000) (k : Nat) (hk : L.length + 1 < k) : cms_Same.f k R C L R C M = some (decide (L = M)) := by
  obtain ⟨k, rfl⟩ : ∃ m, k = m + 1 := ⟨k - 1, by omega⟩
  unfold cms_Same.f
  rw [if_pos rfl, if_pos rfl]
  simp only [cms_Same.j0]
  rw [gL, gM, if_neg (by simp), ← gL]
  exact same_loop (gL.trans gM.symm) hn R C L.length k 0 (by omega) (by omega) fun j hj => by omega

/-- The least count of a hash over the first rows. -/
def least (C : Nat) (h : Int) (L : List Int) : Nat → Int
  | 0 => 4294967295
  | r + 1 => mn (least C h L r) (rd L (((r * C : Nat) : Int) + pl C h r))
theorem addAll_at {R C : Nat} {L : List Int} (g : Good R C L) (h n : Int) {r : Nat} (hr : r < R) : rd (addAll C h n L) (((r * C : Nat) : Int) + pl C h r) = pls (rd L (((r * C : Nat) : Int) + pl C h r)) n := by
  obtain ⟨p, hp, hpC, hlt, _⟩ := place_nat g h hr
  have hlt' : r * C + p < (r + 1) * C := by rw [Nat.add_mul]; omega
  have hh : hit C h (r * C + p) = true := by rw [hit_at h hp hpC (by omega) hlt']; simp
  rw [hp, ← Int.natCast_add]
  unfold rd
  rw [Int.toNat_natCast, List.getD_eq_getElem?_getD, addAll_get, List.getD_eq_getElem?_getD, List.getElem?_eq_getElem hlt, hh]
  simp
theorem least_add {R C : Nat} {L : List Int} (g : Good R C L) (h n : Int) (n0 : 0 ≤ n) : ∀ r, r ≤ R → least C h L r ≤ least C h (addAll C h n L) r ∧ (∀ m, m ≤ n → m ≤ 4294967295 → m ≤ least C h (addAll C h n L) r)
  | 0, _ => ⟨Int.le_refl _, fun _ _ h => h⟩
  | r + 1, hr => by
    obtain ⟨h1, h2⟩ := least_add g h n n0 r (by omega)
    have hx := g.range (((r * C : Nat) : Int) + pl C h r)
    simp only [least]
    rw [addAll_at g h n (by omega)]
    unfold mn pls
    refine ⟨by split <;> omega, fun m hm hm' => ?_⟩
    have := h2 m hm hm'
    split <;> omega

theorem add_add {C : Nat} {L : List Int} (h a b : Int) (hL : ∀ x ∈ L, 0 ≤ x) (a0 : 0 ≤ a) (b0 : 0 ≤ b) : addAll C h b (addAll C h a L) = addAll C h (pls a b) L := by
  apply List.ext_getElem?
  intro i
  rw [addAll_get, addAll_get, addAll_get]
  cases hi : L[i]? with
  | none => simp only [Option.map_none]
  | some x =>
    have := hL x (List.mem_of_getElem? hi)
    simp only [Option.map_some]
    split
    · congr 1
      unfold pls
      split <;> split <;> split <;> (try split) <;> omega
    · trivial
theorem add_zero {C : Nat} {L : List Int} (h : Int) (hL : ∀ x ∈ L, x ≤ 4294967295) : addAll C h 0 L = L := by
  apply List.ext_getElem?
  intro i
  rw [addAll_get]
  cases hi : L[i]? with
  | none => simp only [Option.map_none]
  | some x =>
    have := hL x (List.mem_of_getElem? hi)
    simp only [Option.map_some]
    congr 1
    unfold pls
    split
    · rw [if_pos (by omega)]; omega
    · rfl

end Go.Proofs.Ythemincohmgihaa.PCmsMerges
