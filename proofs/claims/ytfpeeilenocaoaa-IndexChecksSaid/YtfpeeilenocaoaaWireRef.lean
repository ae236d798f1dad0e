/- The document's bytes of numbers: they are the writer's. -/
import Derived.Test.YtfpeeilenocaoaaWireJoins
import Derived.Test.YtfpeeilenocaoaaRead
import Derived.Test.YtfpeeilenocaoaaRelyC
namespace Go.Proofs.Ytfpeeilenocaoaa.Wire
open Go.RowKit Go.Proofs.Ytfpeeilenocaoaa.Own Go.Proofs.Ytfpeeilenocaoaa.Rely
attribute [local go_sem] max_ints min_ints

/-- What a call answers that makes a row of bytes of its own. -/
def Made (w : World) (e : Ending) (xs : List Int) (w' : World) : Prop := ∃ A c, e = .returned (.slice A xs.length c) ∧ Reads w' .u8 A xs ∧ Ext w w'
theorem made_of {w w' : World} {v : Value} {xs : List Int} {S' : Nat → Prop} (h : Row 5 .u8 v xs w' S') (st : Step (fun _ => False) S' w w') : Made w (.returned v) xs w' := by
  obtain ⟨A, c, rfl, _, hr, _⟩ := h.reads
  exact ⟨A, c, rfl, hr, belowF st⟩

set_option maxHeartbeats 2000000 in
set_option maxRecDepth 20000 in
theorem refUint_c (n : Nat) (hn : U64 n) (w : World) : Calls Try.prog 26 #[.int .u64 n] w fun e w' => Made w e (enc n) w' := by
  have HN := Lib.hid hn
  have hlen := enc_ten hn
  clear hn
  go_enter Try.func26, Try.ntmps26
  go_wp2_with fail
  go_loopw [0, 3] (fun v0 v3 wr => ∃ (m : Nat) (l : List Int) (S' : Nat → Prop), U64 m ∧ l ++ enc m = enc n ∧ v0 = .int .u64 m ∧ Row 5 .u8 v3 l wr S' ∧ Step (fun _ => False) S' w wr) (fun v0 _ _ => (intOf v0).toNat)
  case atStart => exact ⟨n, [], fun _ => False, HN.out, by simp, rfl, Row.nil _ _ _, Step.refl _ _⟩
  case round =>
    obtain ⟨m, l, S', hm, hl, rfl, hw, hst⟩ := hrel
    have hll : l.length ≤ 10 := by have := congrArg List.length hl; rw [List.length_append] at this; omega
    have HV := Lib.hid hw.sepEmp
    have ST := Lib.hid hst
    have HM := Lib.hid hm
    have HL := Lib.hid hl
    clear hw hst hl
    have hm : m < 18446744073709551616 := hm
    by_cases hlt : 128 ≤ m
    · obtain ⟨z, hz⟩ : ∃ z : Int, (m : Int) % 128 + 128 = z := ⟨_, rfl⟩
      have hz0 : 0 ≤ z := by omega
      have hz1 : z ≤ 255 := by omega
      have hg : decide ((128 : Int) ≤ (m : Int)) = true := by simp; omega
      have HE : RowKit.Hid ((l ++ [z]) ++ enc (m / 128) = enc n) := Lib.hid (by
        rw [← HL.out, List.append_assoc, enc_big (n := m) (by omega)]
        congr 2
        simp only [List.singleton_append, List.cons.injEq, and_true]
        omega)
      have HQ : RowKit.Hid ((m : Int) / 128 = ((m / 128 : Nat) : Int)) := Lib.hid (by omega)
      have HU : RowKit.Hid (U64 (m / 128)) := Lib.hid (by have : m < 18446744073709551616 := HM.out; show m / 128 < 18446744073709551616; omega)
      go_wp2_with (at_builtin; refine append_lit _ 5 rfl _ _ 22 rfl .u8 1 Try.underlying22 info_u8 (by decide) _ l [z] 1 1 rfl rfl rfl rfl Lcl.emp HV.out (by simp only [List.length_cons, List.length_nil]; omega) ?_; intro A' c' w' S2 h' st'; have H' := Lib.hid (Sep.left_of_emp h'); have ST' := Lib.hid st'; clear h' st')
      rw [HQ.out]
      go_roundw
      case rel => exact ⟨m / 128, l ++ [z], S2, HU.out, HE.out, rfl, H'.out, ST.out.trans ST'.out⟩
      case measure => first | (simp [intOf]; done) | (simp [intOf]; omega)
    · have hg : decide ((128 : Int) ≤ (m : Int)) = false := by simp; omega
      have hm256 : (m : Int) % 256 = m := by omega
      have HE : RowKit.Hid (l ++ [(m : Int)] = enc n) := Lib.hid (by rw [← HL.out, enc_small (n := m) (by omega)])
      go_wp2_with (at_builtin; refine append_lit _ 5 rfl _ _ 22 rfl .u8 1 Try.underlying22 info_u8 (by decide) _ l [(m : Int)] 1 1 rfl rfl rfl rfl Lcl.emp HV.out (by simp only [List.length_cons, List.length_nil]; omega) ?_; intro A' c' w' S2 h' st'; rw [HE.out] at h'; have H' := Lib.hid (Sep.left_of_emp h'); have ST' := Lib.hid st'; clear h' st')
      go_ret
      exact made_of H'.out (ST.out.trans ST'.out)

set_option maxHeartbeats 1000000 in
theorem refWord_c (n : Nat) (hn : n ≤ 4294967295) (w : World) : Calls Try.prog 18 #[.int .u32 n] w fun e w' => Made w e (word4 n) w' := by
  go_enter Try.func18, Try.ntmps18
  go_wp2_with fail
  go_ret
  have h := Row.lit 5 .u8 (word4 n) w (by simp [word4])
  have he : (word4 n).map (Value.int .u8) = [.int .u8 (↑n % 256), .int .u8 (↑n / 256 % 256), .int .u8 (↑n / 65536 % 256), .int .u8 (↑n / 16777216)] := by simp [word4]
  rw [he] at h
  exact made_of (xs := word4 n) h ⟨(Keep.refl _ w).alloc _, fun b hb => .inr (by rw [hb]; exact Nat.le_refl _)⟩
end Go.Proofs.Ytfpeeilenocaoaa.Wire
/- For WireBack and WireAny: rows of numbers as bytes; what the writer's Put makes of an argument; the reader's Word, beside a piece. -/
namespace Go.Proofs.Ytfpeeilenocaoaa.Wire
open Go.RowKit Go.Proofs.Ytfpeeilenocaoaa.Own Go.Proofs.Ytfpeeilenocaoaa.Rely
attribute [local go_sem] max_ints min_ints

def encF (f : Int → List Int) : List Int → List Int
  | [] => []
  | x :: l => f x ++ encF f l
theorem encF_app (f : Int → List Int) : ∀ a b : List Int, encF f (a ++ b) = encF f a ++ encF f b
  | [], b => rfl
  | x :: a, b => by simp only [List.cons_append, encF, encF_app f a b, List.append_assoc]
theorem encF_len (f : Int → List Int) : ∀ l : List Int, (∀ x ∈ l, (f x).length ≤ 10) → (encF f l).length ≤ 10 * l.length
  | [], _ => by simp [encF]
  | x :: l, h => by
    have h1 := h x List.mem_cons_self
    have h2 := encF_len f l fun y hy => h y (List.mem_cons_of_mem _ hy)
    simp only [encF, List.length_append, List.length_cons]; omega
theorem encF_bytes (f : Int → List Int) : ∀ l : List Int, (∀ x ∈ l, IsBytes (f x)) → IsBytes (encF f l)
  | [], _ => fun x hx => by simp [encF] at hx
  | x :: l, h => IsBytes.app (h x List.mem_cons_self) (encF_bytes f l fun y hy => h y (List.mem_cons_of_mem _ hy))
theorem encF_step (f : Int → List Int) (xs : List Int) (k : Nat) (hk : k < xs.length) : encF f (xs.take (k + 1)) = encF f (xs.take k) ++ f (xs.getD k 0) ∧ encF f xs = encF f (xs.take k) ++ (f (xs.getD k 0) ++ encF f (xs.drop (k + 1))) := by
  obtain ⟨h1, h2⟩ := take_snoc xs k hk
  constructor
  · rw [h1, encF_app]; simp [encF]
  · conv => lhs; rw [h2]
    rw [encF_app]; simp [encF]
def f1 (x : Int) : List Int := enc x.toNat
def f2 (x : Int) : List Int := enc (Bit.zig x)
def f3 (x : Int) : List Int := word4 x.toNat
theorem word4_bytes {n : Nat} (h : n ≤ 4294967295) : IsBytes (word4 n) := by
  intro x hx
  simp only [word4, List.mem_cons, List.not_mem_nil, or_false] at hx
  rcases hx with rfl | rfl | rfl | rfl <;> omega
theorem word4_len (n : Nat) : (word4 n).length = 4 := rfl
theorem rword_at {xs : List Int} {i n : Nat} {post : List Int} (hd : xs.drop i = word4 n ++ post) (hn : n ≤ 4294967295) : rword xs ⟨i, 0⟩ = (n, ⟨i + 4, 0⟩) := by
  have hl : xs.length - i = 4 + post.length := by rw [← List.length_drop, hd]; simp [word4]; omega
  have h0 : xs.drop i = ((n % 256 : Nat) : Int) :: (((n / 256 % 256 : Nat) : Int) :: (((n / 65536 % 256 : Nat) : Int) :: (((n / 16777216 : Nat) : Int) :: post))) := hd
  obtain ⟨_, a0, h1⟩ := getD_of_drop h0
  obtain ⟨_, a1, h2⟩ := getD_of_drop h1
  obtain ⟨_, a2, h3⟩ := getD_of_drop h2
  obtain ⟨_, a3, _⟩ := getD_of_drop h3
  unfold rword rleft
  simp only [if_true]
  rw [if_neg (by omega)]
  have e2 : xs.getD (i + 2) 0 = ((n / 65536 % 256 : Nat) : Int) := a2
  have e3 : xs.getD (i + 3) 0 = ((n / 16777216 : Nat) : Int) := a3
  rw [a0, a1, e2, e3]
  congr 1
  unfold Bit.le4
  omega

theorem word_fr (p : Nat) (A : Option Addr) (c : Nat) (X : List Int) (s : RS) (B : Asn) (hB : Lcl B) (hrd : ∀ w S, B w S → Reads w .u8 A X) (hx : IsBytes X) :
    Tri Try.prog 37 #[.pointer (some ⟨p, 0, none⟩)] (Sep (Rd p A c X s) B) (fun e => Fact (e = .returned (.int .u32 (rword X s).1)) (Sep (Rd p A c X (rword X s).2) B)) := by
  rintro w S ⟨S1, S2, h1, h2, d, q⟩
  refine (word_calls p A c X s w S1 hx h1 (fun w' k => hrd _ _ (hB.keep h2 fun x hx => k.block x (hB.lt h2 hx) (fun y => d x y hx)))).mono ?_
  rintro e w' ⟨S', ⟨he, h'⟩, st⟩
  have hs := Sep.step hB h2 d h' st
  have hS : S = fun k => S1 k ∨ S2 k := funext fun k => propext (q k)
  rw [hS]
  exact ⟨_, ⟨he, hs.1⟩, hs.2⟩

set_option maxHeartbeats 1000000 in
theorem put_c (p : Nat) (l : List Int) (A : Option Addr) (c : Nat) (b : List Int) (w : World) (S : Nat → Prop) (h : Wr p l w S) (hr : Reads w .u8 A b) (hl : l.length + b.length ≤ 140737488355328) :
    Calls Try.prog 30 #[.pointer (some ⟨p, 0, none⟩), .slice A b.length c] w fun e w' => ∃ S', Fact (e = .returned (.tuple #[])) (Wr p (l ++ b)) w' S' ∧ Step S S' w w' := by
  obtain ⟨v, h⟩ := h
  obtain ⟨T, hT, _⟩ := h.comm.left
  have c0 : w.cell? ⟨p, 0, none⟩ = some v := hT.cell 0
  have f0 := hT.free 0
  have HR := Lib.hid hr
  have H := Lib.hid h
  clear h hT hr
  go_enter Try.func30, Try.ntmps30
  go_wp2_with (at_builtin; go_loud (refine append_row _ rfl _ _ 22 rfl 5 .u8 1 Try.underlying22 info_u8 (by decide) _ l b A b.length c rfl rfl rfl (Lcl.blk _ _ _) H.out HR.out (by omega) ?_); intro A' c' w' S' h' st'; obtain ⟨T', hT', _⟩ := h'.comm.left; have c1 : w'.cell? ⟨p, 0, none⟩ = some v := hT'.cell 0; have f1 := hT'.free 0; have H' := Lib.hid h'; have ST' := Lib.hid st'; clear h' st' hT')
  go_end0
  exact ⟨_, ⟨rfl, (store_wr H'.out).1⟩, ST'.out.trans (store_wr H'.out).2⟩
end Go.Proofs.Ytfpeeilenocaoaa.Wire
