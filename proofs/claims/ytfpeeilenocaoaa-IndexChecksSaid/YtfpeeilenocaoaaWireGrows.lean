/- The law WireGrows: a greater number has no fewer bytes. -/
import Derived.Test.YtfpeeilenocaoaaWire
namespace Go.Proofs.Ytfpeeilenocaoaa.Wire
open Go.RowKit Go.Proofs.Ytfpeeilenocaoaa.Own
attribute [local go_sem] max_ints min_ints

theorem new_writer {A : Asn} (hA : Lcl A) {w : World} {S : Nat → Prop} (h : A w S) :
    Sep (Wr w.heap.size []) A (w.alloc (.cells #[.slice none 0 0] 70)) (fun k => k = w.heap.size ∨ S k) ∧ Step S (fun k => k = w.heap.size ∨ S k) w (w.alloc (.cells #[.slice none 0 0] 70)) := by
  obtain ⟨⟨S1, S2, h1, h2, d, q⟩, st⟩ := Sep.alloc hA h #[.slice none 0 0] 70
  refine ⟨⟨S1, S2, ⟨.slice none 0 0, fun _ => False, S1, Row.nil _ _ _, h1, fun _ x _ => x, fun k => by simp⟩, h2, d, q⟩, st⟩

/-- The three variables that the functions have. -/
def Vars (w : World) (a b : Nat) (n : Int) (wr : World) : Prop :=
  wr.cell? ⟨w.heap.size, 0, none⟩ = some (.int .u64 a) ∧ wr.cell? ⟨w.heap.size + 1, 0, none⟩ = some (.int .u64 b) ∧ wr.cell? ⟨w.heap.size + 2, 0, none⟩ = some (.int .i64 n) ∧ w.heap.size + 3 ≤ wr.heap.size
theorem Vars.step {w : World} {a b : Nat} {n : Int} {w1 w2 : World} (h : Vars w a b n w1) (hb : Below (w.heap.size + 3) w1 w2) : Vars w a b n w2 :=
  ⟨(hb.cell (p := ⟨w.heap.size, 0, none⟩) (show w.heap.size < w.heap.size + 3 by omega)).trans h.1, (hb.cell (p := ⟨w.heap.size + 1, 0, none⟩) (show w.heap.size + 1 < w.heap.size + 3 by omega)).trans h.2.1,
    (hb.cell (p := ⟨w.heap.size + 2, 0, none⟩) (show w.heap.size + 2 < w.heap.size + 3 by omega)).trans h.2.2.1, Nat.le_trans h.2.2.2 hb.size⟩

theorem enc_mono : ∀ (a b : Nat), a ≤ b → (enc a).length ≤ (enc b).length := by
  intro a
  induction a using Nat.strongRecOn with
  | _ a ih =>
    intro b hab
    by_cases ha : a < 128
    · rw [enc_small ha]
      have := enc_pos b
      simp only [List.length_singleton]
      omega
    · rw [enc_big ha, enc_big (show ¬ b < 128 by omega)]
      have := ih (a / 128) (by omega) (b / 128) (Nat.div_le_div_right hab)
      simp only [List.length_cons]; omega
theorem enc_zig (n : Int) : (enc (Bit.zig n)).length = (enc (Bit.zig (-1 - n))).length := by
  have key : ∀ k : Nat, (enc (2 * k)).length = (enc (2 * k + 1)).length := by
    intro k
    by_cases h : 2 * k < 128
    · rw [enc_small h, enc_small (by omega)]; rfl
    · rw [enc_big h, enc_big (n := 2 * k + 1) (by omega), List.length_cons, List.length_cons, show 2 * k / 128 = (2 * k + 1) / 128 by omega]
  by_cases h : 0 ≤ n
  · have e1 : Bit.zig n = 2 * n.toNat := by unfold Bit.zig; rw [if_pos h]; omega
    have e2 : Bit.zig (-1 - n) = 2 * n.toNat + 1 := by unfold Bit.zig; rw [if_neg (by omega)]; omega
    rw [e1, e2, key]
  · have e1 : Bit.zig n = 2 * (-1 - n).toNat + 1 := by unfold Bit.zig; rw [if_neg h]; omega
    have e2 : Bit.zig (-1 - n) = 2 * (-1 - n).toNat := by unfold Bit.zig; rw [if_pos (by omega)]; omega
    rw [e1, e2, key]

end Go.Proofs.Ytfpeeilenocaoaa.Wire
