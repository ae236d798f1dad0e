/- Between the words of the printed texts and mine: a row that is read, a row of one's own. -/
import Derived.Test.YthemincohmgihaaWWords
import Derived.Test.YthemincohmgihaaOwnB
namespace Go.Proofs.Ythemincohmgihaa.KdX
open Go.RowKit Go.Proofs.Ythemincohmgihaa.Own Go.Proofs.YthemincohmgihaaW.PrintWords

theorem reads_of_C {w : World} {k : IntKind} {A : Option Addr} {n : Nat} {xs : List Int} (h : Kd.C (Kd.int k) w A n xs) : Reads w k A xs := by
  intro i hi
  obtain ⟨hn, _, h2⟩ := h
  obtain ⟨ad, rfl, hc⟩ := h2 (by omega)
  have cell : ∀ j, j < xs.length → w.cell? (ad.add j) = some (.int k (xs.getD j 0)) := by
    intro j hj
    obtain ⟨c, hl, hk, hcc⟩ := hc j _ (List.getElem?_eq_getElem hj)
    have hk' : c = [Value.int k xs[j]] := hk
    subst hk'
    have := hcc 0 _ rfl
    rw [show j * (Kd.int k).sz + 0 = j from Nat.mul_one j] at this
    rw [this]
    simp [List.getD_eq_getElem?_getD, hj]
  have h0 := cell 0 (by omega)
  have hi' := cell i hi
  obtain ⟨b, o, s⟩ := ad
  have hs : s = none := by
    cases s with
    | none => rfl
    | some q =>
      have h1 : w.cell? ⟨b, o, some q⟩ = some _ := h0
      unfold World.cell? at h1
      simp only at h1
      split at h1 <;> simp at h1
  subst hs
  rw [add_lit'] at hi'
  exact ⟨b, o, rfl, World.block_lt_of_cell? w _ hi', hi'⟩
theorem C_of_reads {w : World} {k : IntKind} {A : Option Addr} {xs : List Int} (hl : xs.length ≤ 9223372036854775807) (h : Reads w k A xs) : Kd.C (Kd.int k) w A xs.length xs := by
  refine ⟨rfl, hl, fun hn => ?_⟩
  obtain ⟨b, o, rfl, _, _⟩ := h 0 hn
  refine ⟨_, rfl, fun j p hj => ⟨[Value.int k p], rfl, rfl, fun i u hu => ?_⟩⟩
  obtain ⟨hj2, hp⟩ := List.getElem?_eq_some_iff.1 hj
  obtain ⟨b', o', e, _, hc⟩ := h j hj2
  injection e with e
  injection e with e1 e2 _
  subst e1 e2
  cases i with
  | succ i => simp at hu
  | zero =>
    obtain rfl : Value.int k p = u := by simpa using hu
    rw [show j * (Kd.int k).sz + 0 = j from Nat.mul_one j, add_lit', hc]
    simp [List.getD_eq_getElem?_getD, hj]
theorem R_of_row {w : World} {k : IntKind} {e base : Nat} {v : Value} {xs : List Int} (h : w.ownsRow base e 1 v xs.length (xs.map (Value.int k))) : Kd.R (Kd.int k) e w base (fun _ => True) v xs := Kd.R_of_own h (fun _ _ => trivial)
theorem row_of_R {w : World} {k : IntKind} {e base : Nat} {ok : Nat → Prop} {v : Value} {xs : List Int} (h : Kd.R (Kd.int k) e w base ok v xs) : w.ownsRow base e 1 v xs.length (xs.map (Value.int k)) := Kd.own_of_R h
end Go.Proofs.Ythemincohmgihaa.KdX
