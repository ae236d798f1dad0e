/- P5.1, without the document's answer: numbers have no more bits than by any parameter of one's choice; the first ones of a row have no more bytes: at every input. -/
import Derived.Test.YtlmelcfiegamaaaPRiceSmallx2
import Derived.Test.YtlmelcfiegamaaaPureRising
namespace Go.Proofs.Ytlmelcfiegamaaa.Pure
open Go.RowKit Go.Proofs.Ytlmelcfiegamaaa.PRiceSmall Go.Proofs.YtlmelcfiegamaaaW.PrintWords Go.Proofs.YtlmelcfiegamaaaW.PrintLast Go.Proofs.YtlmelcfiegamaaaW.PrintMore Go.Proofs.Ytlmelcfiegamaaa.Rice Go.Proofs.Ytlmelcfiegamaaa.Wire Go.Proofs.Ytlmelcfiegamaaa.Bits

theorem riceB_len (gs : List Nat) (h : gs.length ≤ 100) (hb : bitsN (param gs) gs ≤ 1000000) :
    (bitsN (param gs) gs + 7) / 8 + 3 ≤ (riceB gs).length ∧ (riceB gs).length ≤ (bitsN (param gs) gs + 7) / 8 + 5 := by
  have hp : (pack (bitsL (param gs) gs)).length = (bitsN (param gs) gs + 7) / 8 := by rw [pack_length, bitsL_len]
  have h1 := enc_pos (pack (bitsL (param gs) gs)).length
  have h2 := enc_len 3 (pack (bitsL (param gs) gs)).length (by rw [hp]; omega) (by omega)
  have h3 : (enc gs.length).length = 1 := by rw [enc_small (by omega)]; rfl
  unfold riceB
  simp only [List.length_append, h3, List.length_singleton]
  omega
theorem shr_nat (g k : Nat) (hk : k ≤ 63) : shr .u64 (g : Int) (k : Int) = ((g / 2 ^ k : Nat) : Int) := by
  unfold shr
  rw [Int.toNat_natCast, show min k IntKind.u64.bits = k by simp [IntKind.bits]; omega, pow_cast]
  exact (Int.natCast_ediv _ _).symm

theorem wsum (B Q kk : Nat) (hB : B ≤ 249600) (hQ : Q ≤ 4096) (hk : kk ≤ 63) : wrap64 ((B : Int) + wrap64 (wrap64 (wrap64 (Q : Int) + 1) + wrap64 (kk : Int))) = ((B + (Q + 1 + kk) : Nat) : Int) := by
  rw [show wrap64 (Q : Int) = Q by unfold wrap64; omega, show wrap64 ((Q : Int) + 1) = ((Q + 1 : Nat) : Int) by unfold wrap64; omega, show wrap64 (kk : Int) = kk by unfold wrap64; omega, show wrap64 (((Q + 1 : Nat) : Int) + kk) = ((Q + 1 + kk : Nat) : Int) by unfold wrap64; omega]
  unfold wrap64; omega
theorem wgap {x y : Int} (h0 : 0 ≤ y) (h1 : x ≤ 18446744073709551615) (h : y < x) : IntKind.u64.wrap (IntKind.u64.wrap (x - y) - 1) = ((x - y - 1).toNat : Int) := by
  rw [u64w (x := x - y) (by omega) (by omega), u64w (by omega) (by omega)]; omega
theorem small_end (B P P2 P3 R R2 : Nat) (h1 : P ≤ B) (h2 : P2 ≤ P3) (h3 : P3 ≤ P) (hB : B ≤ 249600) (l1 : (P + 7) / 8 + 3 ≤ R ∧ R ≤ (P + 7) / 8 + 5) (l2 : (P2 + 7) / 8 + 3 ≤ R2 ∧ R2 ≤ (P2 + 7) / 8 + 5) :
    (if (R : Int) ≤ wrap64 (wrap64 (Int.tdiv (wrap64 ((B : Int) + 7)) 8) + 8) then some (decide ((R2 : Int) ≤ wrap64 ((R : Int) + 2))) else some false) = some true := by
  have f1 : (R : Int) ≤ (((B + 7) / 8 + 8 : Nat) : Int) := by omega
  have f2 : (R2 : Int) ≤ ((R + 2 : Nat) : Int) := by omega
  have hd : Int.tdiv (wrap64 ((B : Int) + 7)) 8 = (((B + 7) / 8 : Nat) : Int) := by
    rw [show wrap64 ((B : Int) + 7) = ((B + 7 : Nat) : Int) by unfold wrap64; omega]
    rfl
  have e1 : wrap64 ((((B + 7) / 8 : Nat) : Int)) = (((B + 7) / 8 : Nat) : Int) := by clear hd; unfold wrap64; omega
  have e2 : wrap64 ((((B + 7) / 8 : Nat) : Int) + 8) = (((B + 7) / 8 + 8 : Nat) : Int) := by clear hd e1; unfold wrap64; omega
  have e3 : wrap64 ((R : Int) + 2) = ((R + 2 : Nat) : Int) := by clear hd e1 e2; unfold wrap64; omega
  rw [hd, e1, e2, e3, if_pos f1]
  exact congrArg some (decide_eq_true f2)
theorem bits_bound {kk : Nat} {gs : List Nat} (h : qOk kk gs = true) (hk : kk ≤ 63) (hl : gs.length ≤ 60) : bitsN kk gs ≤ 249600 :=
  Nat.le_trans (bitsN_le kk gs h) (show (4097 + kk) * gs.length ≤ 4160 * 60 from Nat.mul_le_mul (by omega) hl)
theorem q_take {k : Nat} {gs : List Nat} (h : qOk k gs = true) (c : Nat) : qOk k (gs.take c) = true := by
  unfold qOk at *
  rw [List.all_eq_true] at *
  exact fun g hg => h g (List.mem_of_mem_take hg)
theorem bits_take (k : Nat) (gs : List Nat) (c : Nat) : bitsN k (gs.take c) ≤ bitsN k gs := by
  have := bitsN_app k (gs.take c) (gs.drop c)
  rw [List.take_append_drop] at this
  rw [this]; exact Nat.le_add_right _ _
theorem gaps_le {L : List Int} (hl : L.length ≤ 60) : (gaps L).length ≤ 60 := by rw [gaps_length]; exact hl
theorem small_fin (L : List Int) (hr : Rises L) (hu : U64s L) (hl : L.length ≤ 60) (kk : Nat) (hk : kk ≤ 63) (hq : qOk kk (gaps L) = true) (c : Nat) :
    (if ((riceB (gaps L)).length : Int) ≤ wrap64 (wrap64 (Int.tdiv (wrap64 ((bitsN kk (gaps L) : Int) + 7)) 8) + 8) then some (decide (((riceB (gaps (L.take c))).length : Int) ≤ wrap64 (((riceB (gaps L)).length : Int) + 2))) else some false) = some true := by
  have p1 := param_ok (gaps L) (gaps_lt hu hr)
  have p2 := param_ok (gaps (L.take c)) (gaps_lt (u64s_take hu c) (rises_take hr c))
  have h1 := p1.2.2 kk (Nat.lt_succ_of_le hk) hq
  have hB := bits_bound hq hk (gaps_le hl)
  have hq2 : qOk (param (gaps L)) (gaps (L.take c)) = true := by rw [gaps_take]; exact q_take p1.1 c
  have h2 := p2.2.2 (param (gaps L)) (Nat.lt_succ_of_le p1.2.1) hq2
  have h3 : bitsN (param (gaps L)) (gaps (L.take c)) ≤ bitsN (param (gaps L)) (gaps L) := by rw [gaps_take]; exact bits_take _ _ _
  have l1 := riceB_len (gaps L) (Nat.le_trans (gaps_le hl) (by decide)) (Nat.le_trans h1 (Nat.le_trans hB (by decide)))
  have hlt : (L.take c).length ≤ 60 := Nat.le_trans (by rw [List.length_take]; exact Nat.min_le_right _ _) hl
  have l2 := riceB_len (gaps (L.take c)) (Nat.le_trans (gaps_le hlt) (by decide)) (Nat.le_trans h2 (Nat.le_trans h3 (Nat.le_trans h1 (Nat.le_trans hB (by decide)))))
  exact small_end _ _ _ _ _ _ h1 h2 h3 hB l1 l2
theorem small_next (F : Int → Int → Int → Option Bool) (L : List Int) (hl : L.length ≤ 60) (x2 : Int) (kk : Nat) (hkk : Int.tmod x2 64 = kk) (hk : kk ≤ 63) (i : Nat) (hi : i < L.length) (hq : qOk kk ((gaps L).take i) = true)
    (hrec : qOk kk ((gaps L).take (i + 1)) = true → F (bitsN kk ((gaps L).take (i + 1)) : Int) (rd L i) ((i + 1 : Nat) : Int) = some true) (X : Int) (hX : X = (gapN L i : Int)) :
    (if shr .u64 X (Int.tmod x2 64) > 4096 then some ((0 : Int) == 0) else F (wrap64 ((bitsN kk ((gaps L).take i) : Int) + (wrap64 ((wrap64 ((wrap64 (shr .u64 X (Int.tmod x2 64))) + 1)) + (wrap64 (Int.tmod x2 64)))))) (rd L i) (wrap64 ((i : Int) + 1))) = some true := by
  subst hX
  have hT := take_gaps L hi
  have hw : wrap64 ((i : Int) + 1) = ((i + 1 : Nat) : Int) := by unfold wrap64; omega
  have hdiv : gapN L i / 2 ^ kk ≤ 4096 → qOk kk ((gaps L).take (i + 1)) = true := by
    intro hd
    rw [hT]
    unfold qOk at *
    rw [List.all_append, Bool.and_eq_true]
    exact ⟨hq, by simpa using hd⟩
  have hsum : bitsN kk ((gaps L).take (i + 1)) = bitsN kk ((gaps L).take i) + (gapN L i / 2 ^ kk + 1 + kk) := by rw [hT, bitsN_app]; simp [bitsN]
  have hB := bits_bound hq hk (Nat.le_trans (by rw [List.length_take]; exact Nat.min_le_right _ _) (gaps_le hl))
  rw [hkk, shr_nat _ _ hk, hw]
  generalize gapN L i / 2 ^ kk = Q at *
  generalize bitsN kk ((gaps L).take i) = B at *
  generalize bitsN kk ((gaps L).take (i + 1)) = B' at *
  clear hT
  split
  · rfl
  · rename_i hQ
    have hQ' : Q ≤ 4096 := by omega
    rw [wsum B Q kk hB hQ' hk, ← hsum]
    exact hrec (hdiv hQ')

theorem small_loop (L : List Int) (hr : Rises L) (hu : U64s L) (hl : L.length ≤ 60) (x2 : Int) (kk : Nat) (hkk : Int.tmod x2 64 = kk) (hk : kk ≤ 63) (x3 : Int) (h3 : 0 ≤ x3 ∧ x3 ≤ 255) :
    ∀ (n i : Nat) (last : Int), i + n = L.length → (0 < i → L.getD (i - 1) 0 = last) → qOk kk ((gaps L).take i) = true →
      herbariumlaw05_RiceSmall.l0 (n + 1) x2 x3 L (riceB (gaps L)) 0 (bitsN kk ((gaps L).take i) : Int) last L L.length i = some true
  | 0, i, last, hn, hla, hq => by
    obtain rfl : i = L.length := by omega
    rw [List.take_of_length_le (by rw [gaps_length]; exact Nat.le_refl _)] at hq ⊢
    rw [herbariumlaw05_RiceSmall.l0, if_neg (by omega)]
    have hw : wrap64 ((L.length : Int) + 1) = ((L.length + 1 : Nat) : Int) := by unfold wrap64; omega
    have hw3 : wrap64 x3 = x3 := by unfold wrap64; omega
    rw [hw, hw3, if_neg (by omega)]
    obtain ⟨c, hc⟩ : ∃ c : Nat, Int.tmod x3 ((L.length + 1 : Nat) : Int) = c := ⟨(Int.tmod x3 ((L.length + 1 : Nat) : Int)).toNat, by have := Int.tmod_nonneg (((L.length + 1 : Nat) : Int)) h3.1; omega⟩
    have hcl : c ≤ L.length := by
      have := Int.tmod_lt_of_pos x3 (show (0 : Int) < ((L.length + 1 : Nat) : Int) by omega)
      omega
    rw [hc, if_pos (by omega), if_pos (by omega), Int.toNat_natCast, put_f (rises_take hr c) (u64s_take hu c) (by rw [List.length_take]; omega), Option.bind_some, if_pos rfl, if_pos rfl]
    exact small_fin L hr hu hl kk hk hq c
  | n + 1, i, last, hn, hla, hq => by
    have hi : i < L.length := by omega
    have hx := hu.at hi
    rw [herbariumlaw05_RiceSmall.l0, if_pos (by omega), if_pos (by omega), if_pos (by omega)]
    have hrec : qOk kk ((gaps L).take (i + 1)) = true → herbariumlaw05_RiceSmall.l0 (n + 1) x2 x3 L (riceB (gaps L)) 0 (bitsN kk ((gaps L).take (i + 1)) : Int) (rd L i) L L.length ((i + 1 : Nat) : Int) = some true :=
      small_loop L hr hu hl x2 kk hkk hk x3 h3 n (i + 1) (rd L i) (by omega) (fun _ => by rw [Nat.add_sub_cancel, rd_eq])
    have next := small_next (fun a b c => herbariumlaw05_RiceSmall.l0 (n + 1) x2 x3 L (riceB (gaps L)) 0 a b L L.length c) L hl x2 kk hkk hk i hi hq hrec
    by_cases h0 : i = 0
    · rw [if_neg (by omega), if_pos (by omega)]
      refine next _ ?_
      rw [rd_eq, h0, gapN, if_pos rfl]
      subst h0; omega
    · rw [if_pos (by omega), if_pos (by omega)]
      refine next _ ?_
      have hm := hu.at (i := i - 1) (by omega)
      have hlt := hr (i - 1) (by omega)
      rw [show i - 1 + 1 = i by omega] at hlt
      have hla' := hla (by omega)
      rw [rd_eq, ← hla', gapN, if_neg h0]
      exact wgap hm.1 hx.2 hlt

theorem RiceSmall : herbariumlaw05_RiceSmall.Pure := by
  intro l0 l1 a2 a3 _ _ h0 _ _ h1 h2 h3
  by_cases h60 : (l0.length : Int) > 60
  · exact ⟨0, by
      unfold herbariumlaw05_RiceSmall.f herbariumlaw05_Awake.f
      rw [Option.bind_some, if_pos rfl, if_pos h60]⟩
  · obtain ⟨k, L, hf, hr, hu, hl⟩ := rising l0 l1 h0 h1 (by omega)
    have h2' : 0 ≤ a2 ∧ a2 ≤ 255 := by simp [Lit.wf, IntKind.min, IntKind.max, IntKind.signed, IntKind.bits] at h2; omega
    have h3' : 0 ≤ a3 ∧ a3 ≤ 255 := by simp [Lit.wf, IntKind.min, IntKind.max, IntKind.signed, IntKind.bits] at h3; omega
    have hk0 := Int.tmod_nonneg 64 h2'.1
    have hk1 := Int.tmod_lt_of_pos a2 (show (0 : Int) < 64 by omega)
    have key := small_loop L hr hu (by omega) a2 (Int.tmod a2 64).toNat (by omega) (by omega) a3 h3' L.length 0 0 (by omega) (by omega) rfl
    refine ⟨k + (L.length + 1), ?_⟩
    have m1 : herbariumlaw05_Rising.f (k + (L.length + 1)) l0 l1 = some L := by
      have : ∀ j, herbariumlaw05_Rising.f (k + j) l0 l1 = some L := by
        intro j
        induction j with
        | zero => exact hf
        | succ j ih => exact herbariumlaw05_Rising.mono l0 l1 (k + j) L ih
      exact this _
    have m2 : ∀ j, herbariumlaw05_RiceSmall.l0 (L.length + 1 + j) a2 a3 L (riceB (gaps L)) 0 0 0 L L.length 0 = some true := by
      intro j
      induction j with
      | zero => exact key
      | succ j ih => exact herbariumlaw05_RiceSmall.mono_l (L.length + 1 + j) _ _ _ _ _ _ _ _ _ _ _ ih
    unfold herbariumlaw05_RiceSmall.f herbariumlaw05_Awake.f
    rw [Option.bind_some, if_pos rfl, if_neg h60, m1, Option.bind_some, put_f hr hu (by omega), Option.bind_some, Nat.add_comm]
    exact m2 k
end Go.Proofs.Ytlmelcfiegamaaa.Pure
