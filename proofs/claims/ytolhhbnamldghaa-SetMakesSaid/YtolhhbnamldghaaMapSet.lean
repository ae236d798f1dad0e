/- A set of numbers as a map that the call makes (map[uint32]bool): what it holds; kept while memory grows. -/
import Derived.Test.YtolhhbnamldghaaOwnB
import Derived.Test.YtolhhbnamldghaaRely
import Derived.Maps.OwnSet
import Derived.Maps.OwnOps
import Derived.Maps.RangeWalk
namespace Go.Proofs.Ytolhhbnamldghaa.MapS
open Go Go.RowKit Go.Proofs.Ytolhhbnamldghaa.Own Go.Proofs.Ytolhhbnamldghaa.Rely
open Go.Maps (Keyed)

abbrev D1 := DataW Unit
theorem grown_of_ext {w w' : World} (x : Ext w w') : w.grownBy w' none := ⟨x.os, x.tape, x.output, x.size, fun i hi _ => x.block i hi⟩
theorem owns_ext {P : Program} {k : TypeId} {R : Value → Option (D1 × List MemPlace)} {w w' : World} {b n : Nat} {D : D1} (h : w.ownsMap P k R b n D) (x : Ext w w') : w'.ownsMap P k R b n D := h.kept (grown_of_ext x) (by simp)
/-- What a written block that is new since keeps. -/
theorem ext_grown {w0 w w' : World} {b : Nat} (h : Ext w0 w) (g : w.grownBy w' (some b)) (hb : w0.heap.size ≤ b) : Ext w0 w' :=
  ⟨g.os.trans h.os, g.tape.trans h.tape, g.output.trans h.output, Nat.le_trans h.size g.size, fun i hi => (g.block i (Nat.lt_of_lt_of_le hi h.size) (fun e => by injection e with e; omega)).trans (h.block i hi)⟩
structure SetD (q : IntKind) (D : D1) (U : List Int) : Prop where
  tidy : Maps.Tidy D
  nodup : U.Nodup
  size : Maps.size D = U.length
  at_ : ∀ x, D.atKey (.int q x) (.lit (.bool false)) = .lit (.bool (U.contains x))
  has : ∀ x, Maps.has D (.int q x) = U.contains x
  only : ∀ kl, Maps.has D kl = true → ∃ x ∈ U, kl = .int q x
theorem SetD.nil (q : IntKind) : SetD q (.map []) [] := ⟨Maps.tidy_empty, List.nodup_nil, rfl, fun _ => rfl, fun _ => rfl, fun kl h => by cases h⟩
def insU (U : List Int) (x : Int) : List Int := if U.contains x then U else U ++ [x]
theorem mem_insU {U : List Int} {x y : Int} : y ∈ insU U x ↔ y ∈ U ∨ y = x := by
  unfold insU
  split
  · rename_i h
    constructor
    · exact .inl
    · rintro (h1 | rfl)
      · exact h1
      · simpa using h
  · simp
theorem SetD.put {q : IntKind} {D : D1} {U : List Int} (h : SetD q D U) (x : Int) : SetD q (D.put (.int q x) (.lit (.bool true))) (insU U x) := by
  have hk : WideAt.IsKeyLit (.int q x) := trivial
  have hmem : ∀ y, (insU U x).contains y = (U.contains y || y == x) := by
    intro y
    rw [Bool.eq_iff_iff]
    simp [mem_insU]
  have hat : ∀ y, (D.put (.int q x) (.lit (.bool true))).atKey (.int q y) (.lit (.bool false)) = .lit (.bool ((insU U x).contains y)) := by
    intro y
    by_cases hy : y = x
    · subst hy
      rw [Maps.atKey_put_same h.tidy.isMap hk, hmem]; simp
    · rw [Maps.atKey_put_other (fun e => hy (by injection e)), h.at_, hmem]
      simp [hy]
  have hhas : ∀ y, Maps.has (D.put (.int q x) (.lit (.bool true))) (.int q y) = (insU U x).contains y := by
    intro y
    by_cases hy : y = x
    · subst hy
      rw [Maps.has_put_same h.tidy.isMap hk, hmem]; simp
    · rw [Maps.has_put_other (fun e => hy (by injection e)), h.has, hmem]
      simp [hy]
  refine ⟨h.tidy.put hk _, ?_, ?_, hat, hhas, fun kl hkl => ?_⟩
  · unfold insU
    split
    · exact h.nodup
    · rename_i hn
      refine List.nodup_append.2 ⟨h.nodup, by simp, fun a ha b hb => ?_⟩
      rw [List.mem_singleton.1 hb]
      rintro rfl
      exact hn (by simpa using ha)
  · rw [Maps.size_put h.tidy, h.has, h.size]
    unfold insU
    split <;> simp
  · by_cases hkx : kl = .int q x
    · exact ⟨x, mem_insU.2 (.inr rfl), hkx⟩
    · rw [Maps.has_put_other hkx] at hkl
      obtain ⟨y, hy, e⟩ := h.only kl hkl
      exact ⟨y, mem_insU.2 (.inl hy), e⟩
theorem same_length {U V : List Int} (hU : U.Nodup) (hV : V.Nodup) (h : ∀ x, x ∈ U ↔ x ∈ V) : U.length = V.length :=
  ((List.perm_ext_iff_of_nodup hU hV).2 h).length_eq
/-- How many of a list that may not be left any more are below a number. -/
theorem count_step {p : Int → Bool} {x n : Int} : ∀ {t : List Int}, t.Nodup → x ∈ t → p x = false → (t.filter (fun y => decide (y < n) && (p y || y == x))).length = (t.filter (fun y => decide (y < n) && p y)).length + (if x < n then 1 else 0) := by
  have other : ∀ {t : List Int}, x ∉ t → (t.filter (fun y => decide (y < n) && (p y || y == x))).length = (t.filter (fun y => decide (y < n) && p y)).length := by
    intro t hx
    congr 1
    refine List.filter_congr fun z hz => ?_
    have : (z == x) = false := by rw [beq_eq_false_iff_ne]; rintro rfl; exact hx hz
    rw [this, Bool.or_false]
  intro t
  induction t with
  | nil => intro _ h; cases h
  | cons y t ih =>
    intro hn hm hp
    obtain ⟨h1, h2⟩ := List.nodup_cons.1 hn
    rw [List.filter_cons, List.filter_cons]
    by_cases hy : y = x
    · subst hy
      rw [hp, Bool.and_false]
      simp only [Bool.false_or, beq_self_eq_true, Bool.and_true]
      have o := other h1
      by_cases hlt : y < n
      · rw [decide_eq_true hlt, if_pos rfl, if_pos hlt, List.length_cons, o]; simp
      · rw [decide_eq_false hlt, if_neg (by decide), if_neg hlt, o]; simp
    · have hx : x ∈ t := (List.mem_cons.1 hm).resolve_left (fun e => hy e.symm)
      have hb : (y == x) = false := by rw [beq_eq_false_iff_ne]; exact hy
      have := ih h2 hx hp
      rw [hb, Bool.or_false]
      by_cases hc : (decide (y < n) && p y) = true
      · rw [if_pos hc, if_pos hc, List.length_cons, List.length_cons, this]; omega
      · rw [if_neg hc, if_neg hc, this]
end Go.Proofs.Ytolhhbnamldghaa.MapS
