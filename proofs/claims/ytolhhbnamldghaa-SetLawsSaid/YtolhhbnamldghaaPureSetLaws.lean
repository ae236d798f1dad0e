/- P11.1, without the document's answer: what is in both of one and either of two; of itself: at every input. -/
import Derived.Test.YtolhhbnamldghaaPSetLawsx3
import Derived.Test.YtolhhbnamldghaaPureSetF
namespace Go.Proofs.Ytolhhbnamldghaa.Pure
open Go.RowKit Go.Proofs.Ytolhhbnamldghaa.PSetLaws Go.Proofs.YtolhhbnamldghaaW.PrintWords Go.Proofs.YtolhhbnamldghaaW.PrintLast Go.Proofs.YtolhhbnamldghaaW.PrintMore Go.Proofs.Ytolhhbnamldghaa.Set

theorem laws_j {k : Nat} (hk : 1001 ≤ k) (l0 l1 l2 : List Int) (b : Bool) (h0 : l0.length ≤ 40) (h1 : l1.length ≤ 40) (h2 : l2.length ≤ 40) : herbariumlaw11_SetLaws.j0 (k + 1) l0 l1 l2 b false = some true := by
  obtain ⟨x, ex, ax, lx, _⟩ := law_of b l0 (by omega) (k := k) (by omega)
  obtain ⟨y, ey, ay, ly, _⟩ := law_of b l1 (by omega) (k := k) (by omega)
  obtain ⟨z, ez, az, lz, _⟩ := law_of b l2 (by omega) (k := k) (by omega)
  have o1 := orL_le y z
  have o2 := orL_le x y
  have o3 := orL_le x z
  have n1 := andL_le x y
  have n2 := andL_le x z
  have n3 := andL_le y z
  have axy := asc_andL ax y
  have axz := asc_andL ax z
  have ayz := asc_andL ay z
  have oxy := asc_orL ax ay
  have oxz := asc_orL ax az
  have oyz := asc_orL ay az
  have e1 := or_f y z (by omega) (by omega) (k := k) (by omega)
  have e2 := and_f (s := x) (o := orL y z) (by omega) (by omega) ax oyz
  have e3 := and_f (s := x) (o := y) (by omega) (by omega) ax ay
  have e4 := and_f (s := x) (o := z) (by omega) (by omega) ax az
  have e5 := or_f (andL x y) (andL x z) (by omega) (by omega) (k := k) (by omega)
  have l6 := andL_le x (orL y z)
  have e6 := same_f (s := andL x (orL y z)) (o := orL (andL x y) (andL x z)) (asc_ext (asc_andL ax _) (asc_orL axy axz) (fun q => by
    rw [mem_andL, mem_orL, mem_orL, mem_andL, mem_andL]; constructor
    · rintro ⟨h, h1 | h1⟩
      · exact .inl ⟨h, h1⟩
      · exact .inr ⟨h, h1⟩
    · rintro (⟨h, h1⟩ | ⟨h, h1⟩)
      · exact ⟨h, .inl h1⟩
      · exact ⟨h, .inr h1⟩)) (by omega) (k := k) (by omega)
  have e7 := and_f (s := y) (o := z) (by omega) (by omega) ay az
  have e8 := or_f x (andL y z) (by omega) (by omega) (k := k) (by omega)
  have e9 := or_f x y (by omega) (by omega) (k := k) (by omega)
  have e10 := or_f x z (by omega) (by omega) (k := k) (by omega)
  have e11 := and_f (s := orL x y) (o := orL x z) (by omega) (by omega) oxy oxz
  have l12 := orL_le x (andL y z)
  have e12 := same_f (s := orL x (andL y z)) (o := andL (orL x y) (orL x z)) (asc_ext (asc_orL ax ayz) (asc_andL oxy _) (fun q => by
    rw [mem_orL, mem_andL, mem_andL, mem_orL, mem_orL]; constructor
    · rintro (h | ⟨h, h1⟩)
      · exact ⟨.inl h, .inl h⟩
      · exact ⟨.inr h, .inr h1⟩
    · rintro ⟨h | h, h1 | h1⟩
      · exact .inl h
      · exact .inl h
      · exact .inl h1
      · exact .inr ⟨h, h1⟩)) (by omega) (k := k) (by omega)
  have e13 := and_f (s := orL x y) (o := x) (by omega) (by omega) oxy ax
  have l14 := andL_le (orL x y) x
  have e14 := same_f (s := andL (orL x y) x) (o := x) (asc_ext (asc_andL oxy _) ax (fun q => by
    rw [mem_andL, mem_orL]; exact ⟨fun h => h.2, fun h => ⟨.inl h, h⟩⟩)) (by omega) (k := k) (by omega)
  have e15 := or_f x x (by omega) (by omega) (k := k) (by omega)
  have l16 := orL_le x x
  have e16 := same_f (s := orL x x) (o := x) (asc_ext (asc_orL ax ax) ax (fun q => by rw [mem_orL]; exact or_self_iff)) (by omega) (k := k) (by omega)
  have e17 := and_f (s := x) (o := x) (by omega) (by omega) ax ax
  have l18 := andL_le x x
  have e18 := same_f (s := andL x x) (o := x) (asc_ext (asc_andL ax _) ax (fun q => by rw [mem_andL]; exact and_self_iff)) (by omega) (k := k) (by omega)
  have e19 := or_f (orL x y) z (by omega) (by omega) (k := k) (by omega)
  have e20 := or_f x (orL y z) (by omega) (by omega) (k := k) (by omega)
  have l21 := orL_le (orL x y) z
  have e21 := same_f (s := orL (orL x y) z) (o := orL x (orL y z)) (asc_ext (asc_orL oxy az) (asc_orL ax oyz) (fun q => by rw [mem_orL, mem_orL, mem_orL, mem_orL, or_assoc])) (by omega) (k := k) (by omega)
  rw [herbariumlaw11_SetLaws.j0, if_neg (by decide)]
  simp only [ex, ey, ez, e1, e2, e3, e4, e5, e6, e7, e8, e9, e10, e11, e12, e13, e14, e15, e16, e17, e18, e19, e20, e21, Option.bind_some, if_true]

theorem SetLaws : herbariumlaw11_SetLaws.Pure := by
  intro l0 l1 l2 b _ _ _ _ _ _ _ _ _
  refine ⟨1002, ?_⟩
  have jt : herbariumlaw11_SetLaws.j0 1002 l0 l1 l2 b true = some true := by rw [herbariumlaw11_SetLaws.j0, if_pos rfl]
  unfold herbariumlaw11_SetLaws.f herbariumlaw11_Awake.f
  rw [Option.bind_some, if_pos rfl]
  by_cases h0 : (l0.length : Int) > 40
  · rw [if_pos h0]; exact jt
  · by_cases h1 : (l1.length : Int) > 40
    · rw [if_neg h0, if_pos h1]; exact jt
    · rw [if_neg h0, if_neg h1]
      by_cases h2 : (l2.length : Int) > 40
      · rw [decide_eq_true h2]; exact jt
      · rw [decide_eq_false h2]
        exact laws_j (Nat.le_refl _) l0 l1 l2 b (by omega) (by omega) (by omega)
end Go.Proofs.Ytolhhbnamldghaa.Pure
