/- A region that draws, by what each operation promises, where SEVERAL operations write, each of which waits for the one ahead: the world goes from stage to stage. It speaks of no program. -/
import Derived.Test.YtfpeeilenocaoaaRelyC
namespace Go.Proofs.Ytfpeeilenocaoaa.Rely

/-- What an operation may do: one that writes goes to the next stage, the others keep to R0. -/
def stepW (R0 R : World → World → Prop) (ws : List Nat) (St : Nat → World → Prop) (k : Nat) (x y : World) : Prop :=
  R x y ∧ (∀ m : Nat, ws[m]? = some k → St (m + 1) y) ∧ ((∀ m : Nat, ws[m]? ≠ some k) → R0 x y)
/-- So many of those that write have run. -/
def Staged (ws : List Nat) (St : Nat → World → Prop) (listed : Array Bool) (w : World) : Prop :=
  ∃ k, k ≤ ws.length ∧ (∀ m i : Nat, m < k → ws[m]? = some i → listed.getD i false = true) ∧ (∀ m i : Nat, k ≤ m → ws[m]? = some i → listed.getD i false = false) ∧ St k w
/-- Each that writes waits for those ahead, and has no guard. -/
def chainB (l : List Oper) (ws : List Nat) : Bool :=
  (List.range ws.length).all (fun m' => (List.range m').all (fun m => ((masksFrom [] l).getD (ws.getD m' 0) 0).testBit (ws.getD m 0))) && ws.all (fun i => (l[i]?.bind (fun o : Oper => o.guard)).isNone)
theorem chain_wait {l : List Oper} {ws : List Nat} (h : chainB l ws = true) : ∀ m m' i i' : Nat, m < m' → ws[m]? = some i → ws[m']? = some i' → ((masksFrom [] l).getD i' 0).testBit i = true := by
  intro m m' i i' hlt hm hm'
  simp only [chainB, Bool.and_eq_true] at h
  have h1 := List.all_eq_true.1 h.1 m' (by simp; exact (List.getElem?_eq_some_iff.1 hm').1)
  have h2 := List.all_eq_true.1 h1 m (by simpa using hlt)
  rw [List.getD_eq_getElem?_getD, List.getD_eq_getElem?_getD (l := ws), hm'] at h2
  simpa [List.getD_eq_getElem?_getD, hm] using h2
theorem chain_guard {l : List Oper} {ws : List Nat} (h : chainB l ws = true) : ∀ (m i : Nat) (p : Nat × Bool), ws[m]? = some i → l[i]?.bind (fun o : Oper => o.guard) ≠ some p := by
  intro m i p hm hp
  simp only [chainB, Bool.and_eq_true] at h
  have h1 := List.all_eq_true.1 h.2 i (List.mem_of_getElem? hm)
  rw [hp] at h1
  cases h1

section
variable (P : Program) (R0 R : World → World → Prop) (ws : List Nat) (St : Nat → World → Prop) (Q : Exit → Act → World → Prop) (w0 : World) (a0 : Act) (dsts : List (Option Tmp))
def RelyW : Nat → (List Spec → List Spec) → List Oper → List (List (Tmp × Option Nat)) → Prop
  | _, gs, [], _ => ∀ w, R w0 w → St ws.length w → ends w (fun a => Q .normal a w) dsts (gs []) a0
  | k, gs, o :: os, rd :: rds => ∃ s, Stable R s ∧ (∀ w, R w0 w → (∀ m : Nat, ws[m]? = some k → St m w) → ∀ a : Act, given w (gs []) a0 a rd (OpGoal P (stepW R0 R ws St k) Q (gs []) o s w a)) ∧ RelyW (k + 1) (fun tl => gs (s :: tl)) os rds
  | _, _, _ :: _, [] => False
end

section
variable {P : Program} {ops : Array Oper} {Q : Exit → Act → World → Prop} {R0 R : World → World → Prop} {ws : List Nat} {St : Nat → World → Prop}
theorem wpAny_winW {w0 : World} {a0 : Act} {l : List Oper} {Gs : List Spec} {rds : List (List (Tmp × Option Nat))} (c e : Nat) (hce : c ≤ e) (hel : e ≤ l.length) (hrefl : ∀ w, R w w) (htr : ∀ a b c, R a b → R b c → R a c) (hsub : ∀ a b, R0 a b → R a b) (hrefl0 : ∀ w, R0 w w) (hst : ∀ j, Stable R (Gs.getD j (.const undef)))
    (hback : backB 0 l = true) (hd : distinct (l.map (·.dst))) (hb : ∀ d, some d ∈ l.map (·.dst) → d < a0.tmps.size) (hrd : rdsOkC c (l.map (·.dst)) (masksFrom [] l) c ((l.drop c).take (e - c)) rds = true) (hw : waitsB (masksFrom [] l) l.length e = true) (hpc : ∀ j n, j < c → (l.map (·.dst)).getD j none = some n → Gs.getD j (.const undef) = .const (a0.tmps.getD n undef))
    (hnog : ∀ (m i : Nat) (p : Nat × Bool), ws[m]? = some i → l[i]?.bind (fun o : Oper => o.guard) ≠ some p) (hwe : ∀ m i : Nat, ws[m]? = some i → i < e) (hstc : ∀ m x y, St m x → R0 x y → St m y) (hch : ∀ m m' i i' : Nat, m < m' → ws[m]? = some i → ws[m']? = some i' → ((masksFrom [] l).getD i' 0).testBit i = true) (hop : ∀ i o, c ≤ i → i < e → l[i]? = some o → ∀ w, R w0 w → (∀ m : Nat, ws[m]? = some i → St m w) → ∃ gs : List Spec, (∀ j, j < i → gs.getD j (.const undef) = Gs.getD j (.const undef)) ∧ ∀ a : Act, given w gs a0 a (rds.getD (i - c) []) (OpGoal P (stepW R0 R ws St i) Q gs o (Gs.getD i (.const undef)) w a))
    (hfin : ∀ (fuel : Nat) (listed : Array Bool) (a : Act) (w : World), l.length - e ≤ fuel → listed.size = l.length → (∀ j, j < e → listed.getD j false = true) → (∀ j, e ≤ j → listed.getD j false = false) → Closed l.toArray listed → Inv R w0 a0 l Gs listed a w → St ws.length w → wpAny P .any l.toArray Q fuel listed a w) :
    ∀ (fuel : Nat) (rem : List Nat) (listed : Array Bool) (a : Act) (w : World), l.length - e + rem.length ≤ fuel → listed.size = l.length → (∀ j, j < e → (listed.getD j false = false ↔ j ∈ rem)) → (∀ j ∈ rem, c ≤ j ∧ j < e) → (∀ j, e ≤ j → listed.getD j false = false) → rem.Nodup →
      Closed l.toArray listed → Inv R w0 a0 l Gs listed a w → Staged ws St listed w → wpAny P .any l.toArray Q fuel listed a w := by
  have some_ready : ∀ (listed : Array Bool) (rem : List Nat), listed.size = l.length → (∀ j, j < e → (listed.getD j false = false ↔ j ∈ rem)) → (∀ j ∈ rem, c ≤ j ∧ j < e) → Region.ready .any l.toArray listed = [] → ∀ j, j ∉ rem := by
    intro listed rem hsz hrem hlt hr j
    induction j using Nat.strongRecOn with
    | _ j ih =>
      intro hj
      have hje := (hlt j hj).2
      have hjl : j < l.length := by omega
      have ho : l.toArray[j]? = some l[j] := by simp [hjl]
      have : j ∈ Region.ready .any l.toArray listed := by
        refine mem_ready.2 ⟨?_, _, ho, fun e he hbd => ?_⟩
        · have h2 := (hrem j hje).2 hj
          have : j < listed.size := by omega
          simpa [this] using h2
        · have h1 := back_of l 0 hback j l[j] (List.getElem?_eq_getElem hjl) e he hbd
          have h2 := ih e.on (by omega)
          cases h3 : listed.getD e.on false with
          | true => rfl
          | false => exact absurd ((hrem e.on (by omega)).1 h3) h2
      rw [hr] at this
      cases this
  have stage_end : ∀ (listed : Array Bool) (w : World), (∀ j, j < e → listed.getD j false = true) → Staged ws St listed w → St ws.length w := by
    rintro listed w hall ⟨k, p0, p1, p2, p3⟩
    rcases Nat.lt_or_ge k ws.length with x | x
    · have q1 := p2 k ws[k] (Nat.le_refl _) (List.getElem?_eq_getElem x)
      rw [hall _ (hwe k _ (List.getElem?_eq_getElem x))] at q1
      cases q1
    · obtain rfl : k = ws.length := by omega
      exact p3
  intro fuel
  induction fuel with
  | zero =>
    intro rem listed a w hlen2 hsz hrem hlt hout hnd hc hI hpre
    obtain rfl : rem = [] := List.eq_nil_of_length_eq_zero (by omega)
    have hall : ∀ j, j < e → listed.getD j false = true := (fun j hj => by
      cases h : listed.getD j false with
      | true => rfl
      | false => exact absurd ((hrem j hj).1 h) (by simp))
    exact hfin 0 listed a w (by omega) hsz hall hout hc hI (stage_end listed w hall hpre)
  | succ fuel ih =>
    intro rem listed a w hlen2 hsz hrem hlt hout hnd hc hI hpre
    by_cases hrn : rem = []
    · subst hrn
      have hall : ∀ j, j < e → listed.getD j false = true := (fun j hj => by
        cases h : listed.getD j false with
        | true => rfl
        | false => exact absurd ((hrem j hj).1 h) (by simp))
      exact hfin (fuel + 1) listed a w (by simpa using hlen2) hsz hall hout hc hI (stage_end listed w hall hpre)
    obtain ⟨r0, hr0⟩ := List.exists_mem_of_ne_nil rem hrn
    refine ⟨fun hr => absurd hr0 (some_ready listed rem hsz hrem hlt hr r0), fun i hi => ?_⟩
    · obtain ⟨h1, oi, hoi, _⟩ := mem_ready.1 hi
      have hi' : i < l.length := by
        have := (Array.getElem?_eq_some_iff.1 hoi).1
        simpa using this
      have hol : l[i]? = some oi := by simpa using hoi
      have his : i < listed.size := by omega
      have h2 : listed.getD i false = false := by simpa [his] using h1
      have good : ∀ listed' : Array Bool, Closed l.toArray listed' → ∀ i j, ((masksFrom [] l).getD i 0).testBit j = true → listed'.getD i false = true → listed'.getD j false = true := by
        intro listed' hc'
        refine masks_good listed' l [] 0 rfl (fun i o ho e he hbd hl => ?_) (fun i j hb => by simp at hb)
        exact hc' i o (by simpa using ho) (by simpa using hl) e he hbd
      have back : ∀ i j, ((masksFrom [] l).getD i 0).testBit j = true → j < i := masks_back l [] 0 rfl hback (fun i j hb => by simp at hb)
      have need : ∀ j, ((masksFrom [] l).getD i 0).testBit j = true → listed.getD j false = true := by
        intro j hbit
        have h3 := good _ (hc.set hi) i j hbit (by simp [his])
        have h4 := back i j hbit
        rwa [getD_set_ne false (by omega)] at h3
      have hie : i < e := by
        rcases Nat.lt_or_ge i e with x | x
        · exact x
        · have h7 := need r0 (waits_at hw hi' x (hlt r0 hr0).2)
          have h8 := (hrem r0 (hlt r0 hr0).2).2 hr0
          rw [h7] at h8
          cases h8
      have hmem := (hrem i hie).1 h2
      have hci := (hlt i hmem).1
      have later : ∀ j, ((masksFrom [] l).getD j 0).testBit i = true → listed.getD j false = false := by
        intro j hbit
        cases h6 : listed.getD j false with
        | false => rfl
        | true =>
          have := good _ hc j i hbit h6
          rw [this] at h2
          cases h2
      have hstage : ∀ m : Nat, ws[m]? = some i → St m w := by
        intro m hm
        obtain ⟨k, p0, p1, p2, p3⟩ := hpre
        have hkm : k = m := by
          rcases Nat.lt_trichotomy k m with x | x | x
          · have hkl : k < ws.length := Nat.lt_trans x (List.getElem?_eq_some_iff.1 hm).1
            have q1 := p2 k ws[k] (Nat.le_refl _) (List.getElem?_eq_getElem hkl)
            have q2 := need _ (hch k m _ i x (List.getElem?_eq_getElem hkl) hm)
            rw [q2] at q1; cases q1
          · exact x
          · have q1 := p1 m i x hm
            rw [h2] at q1; cases q1
        rw [← hkm]; exact p3
      obtain ⟨gs, hge, hview⟩ := hop i oi hci hie hol w hI.rel hstage
      have hrd2 := rdsOkC_at hrd (i - c) oi (by rw [List.getElem?_take, if_pos (by omega), List.getElem?_drop, show c + (i - c) = i by omega]; exact hol)
      rw [show c + (i - c) = i by omega] at hrd2
      have hdst : ∀ j x, (l.map (·.dst)).getD j none = some x → ∃ o, l[j]? = some o ∧ o.dst = some x := by
        intro j x hx
        rw [List.getD_eq_getElem?_getD, List.getElem?_map] at hx
        cases ho : l[j]? with
        | none => rw [ho] at hx; simp at hx
        | some o => rw [ho] at hx; exact ⟨o, rfl, by simpa using hx⟩
      have hval : ∀ j x, (l.map (·.dst)).getD j none = some x → ((masksFrom [] l).getD i 0).testBit j = true → Sat (gs.getD j (.const undef)) (a.tmps.getD x undef) w := by
        intro j x hx hbit
        obtain ⟨o, ho, hox⟩ := hdst j x hx
        have h3 := hI.done j o ho (need j hbit)
        rw [hox] at h3
        rw [hge j (back i j hbit)]
        exact h3
      have hgoal : OpGoal P (stepW R0 R ws St i) Q gs oi (Gs.getD i (.const undef)) w a := by
        refine given_elim _ (fun n hn => ?_) (fun n j hn => ?_) (hview a)
        · by_cases hex : ∃ j, j < c ∧ (l.map (·.dst)).getD j none = some n
          · obtain ⟨j, hjc, hjn⟩ := hex
            obtain ⟨o, ho, hox⟩ := hdst j n hjn
            have h3 := hI.done j o ho (by
              cases h6 : listed.getD j false with
              | true => rfl
              | false => exact absurd (hlt j ((hrem j (by omega)).1 h6)).1 (by omega))
            rw [hox, hpc j n hjc hjn] at h3
            exact h3
          · refine hI.rest n (fun j o ho hdo => ?_)
            have hjl : j < l.length := (List.getElem?_eq_some_iff.1 ho).1
            have hjn : (l.map (·.dst)).getD j none = some n := by simp [List.getD_eq_getElem?_getD, ho, hdo]
            rcases rdOkC_none hrd2.1 hn j (by simpa using hjl) hjn with h3 | rfl | h3
            · exact absurd ⟨j, h3, hjn⟩ hex
            · exact h2
            · exact later j h3
        · have h3 := rdOkC_some hrd2.1 hn
          exact hval j n h3.1 h3.2
      have next : ∀ v w', stepW R0 R ws St i w w' → Sat (Gs.getD i (.const undef)) v w' → wpAny P .any l.toArray Q fuel (listed.setIfInBounds i true) (a.put oi.dst v) w' := by
        intro v w' hR1 hv
        have hR : R w w' := hR1.1
        refine ih (rem.erase i) _ _ _ ?_ (by simpa using hsz) ?_ (fun j hj => hlt j (List.mem_of_mem_erase hj)) (fun j hj => by rw [getD_set_ne false (by omega)]; exact hout j hj) (hnd.erase i) (hc.set hi) (hI.put htr hst hd hb hol his hR hv) ?_
        · rw [List.length_erase_of_mem hmem]; have := List.length_pos_of_mem hmem; omega
        · intro j hj
          by_cases hij : i = j
          · subst hij
            simp only [List.Nodup.mem_erase_iff hnd, ne_eq, not_true_eq_false, false_and, iff_false]
            simp [his]
          · rw [getD_set_ne false hij, hrem j hj, List.Nodup.mem_erase_iff hnd]
            exact ⟨fun h => ⟨fun e => hij e.symm, h⟩, fun h => h.2⟩
        · obtain ⟨k, p0, p1, p2, p3⟩ := hpre
          by_cases hw : ∃ m : Nat, ws[m]? = some i
          · obtain ⟨m, hm⟩ := hw
            have hml := (List.getElem?_eq_some_iff.1 hm).1
            refine ⟨m + 1, hml, fun m' i' hlt hm' => ?_, fun m' i' hle hm' => ?_, hR1.2.1 m hm⟩
            · by_cases hii : i = i'
              · subst hii
                simp [his]
              · rw [getD_set_ne false hii]
                have hmm : m' < m := by
                  rcases Nat.lt_or_ge m' m with x | x
                  · exact x
                  · obtain rfl : m' = m := by omega
                    rw [hm] at hm'; injection hm' with hm'; exact absurd hm' hii
                exact need _ (hch m' m i' i hmm hm' hm)
            · have hii : ¬ i = i' := by
                rintro rfl
                have := back _ _ (hch m m' i i (by omega) hm hm')
                omega
              rw [getD_set_ne false hii]
              have hkm : ¬ m < k := fun x => by
                have q1 := p1 m i x hm
                rw [h2] at q1; cases q1
              exact p2 m' i' (by omega) hm'
          · refine ⟨k, p0, fun m' i' hlt hm' => ?_, fun m' i' hle hm' => ?_, hstc k w w' p3 (hR1.2.2 (fun m hm => hw ⟨m, hm⟩))⟩
            · have hii : ¬ i = i' := by rintro rfl; exact hw ⟨m', hm'⟩
              rw [getD_set_ne false hii]; exact p1 m' i' hlt hm'
            · have hii : ¬ i = i' := by rintro rfl; exact hw ⟨m', hm'⟩
              rw [getD_set_ne false hii]; exact p2 m' i' hle hm'
      unfold wpOp
      rw [hoi]
      simp only
      unfold OpGoal at hgoal
      cases hg : oi.guard with
      | none =>
        rw [hg] at hgoal
        rw [if_pos (show Region.wanted oi (yielded l.toArray a.tmps) = true by simp [Region.wanted, hg])]
        exact wpList_single (hgoal _ next)
      | some p =>
        obtain ⟨j, b⟩ := p
        rw [hg] at hgoal
        simp only at hgoal
        obtain ⟨hsm, hbit⟩ := hrd2.2 j b hg
        obtain ⟨x, hx⟩ := Option.isSome_iff_exists.1 hsm
        have hv := hval j x hx hbit
        obtain ⟨o, ho, hox⟩ := hdst j x hx
        have hxs : x < a.tmps.size := by
          rw [hI.size]
          exact hb x (by rw [← hox]; exact List.mem_map_of_mem (List.mem_of_getElem? ho))
        cases hs : gs.getD j (.const undef) with
        | rel G => rw [hs] at hgoal; exact hgoal.elim
        | const c =>
          rw [hs] at hgoal hv
          have hv : a.tmps.getD x undef = c := hv
          cases c with
          | bool c =>
            have hy : yielded l.toArray a.tmps j = some c := by
              unfold yielded
              have e1 : ((l.toArray[j]?).bind (·.dst)) = some x := by simp [ho, hox]
              rw [e1]
              simp only [Option.bind_some]
              have e2 : a.tmps[x]? = some (.bool c) := by
                rw [Array.getElem?_eq_getElem hxs]
                simp only [Array.getD_eq_getD_getElem?, Array.getElem?_eq_getElem hxs, Option.getD_some] at hv
                rw [hv]
              rw [e2]
            have hw : Region.wanted oi (yielded l.toArray a.tmps) = (c == b) := by
              unfold Region.wanted
              rw [hg]
              simp only [hy]
              cases c <;> cases b <;> rfl
            rw [hw]
            simp only at hgoal
            cases hcb : (c == b) with
            | true =>
              rw [hcb] at hgoal
              simp only [if_true] at hgoal ⊢
              exact wpList_single (hgoal _ next)
            | false =>
              rw [hcb] at hgoal
              simp only [Bool.false_eq_true, if_false] at hgoal ⊢
              exact next undef w ⟨hrefl w, fun m hm => absurd (by rw [hol]; exact hg) (hnog m i (j, b) hm), fun _ => hrefl0 w⟩ hgoal
          | _ => exact hgoal.elim


theorem relyW_of : ∀ (dsts : List (Option Tmp)) (w0 : World) (a0 : Act) (os : List Oper) (rds : List (List (Tmp × Option Nat))) (gs : List Spec → List Spec) (pre : List Spec), (∀ tl, gs tl = pre ++ tl) → RelyW P R0 R ws St Q w0 a0 dsts pre.length gs os rds →
    ∃ Gs : List Spec, Gs.length = pre.length + os.length ∧ (∀ j, j < pre.length → Gs.getD j (.const undef) = pre.getD j (.const undef)) ∧ (∀ j, pre.length ≤ j → Stable R (Gs.getD j (.const undef))) ∧
      (∀ i o, os[i]? = some o → ∀ w, R w0 w → (∀ m : Nat, ws[m]? = some (pre.length + i) → St m w) → ∀ a : Act, given w (Gs.take (pre.length + i)) a0 a (rds.getD i []) (OpGoal P (stepW R0 R ws St (pre.length + i)) Q (Gs.take (pre.length + i)) o (Gs.getD (pre.length + i) (.const undef)) w a)) ∧
      (∀ w, R w0 w → St ws.length w → ends w (fun a => Q .normal a w) dsts Gs a0)
  | dsts, w0, a0, [], rds, gs, pre, hg, h => by
    refine ⟨pre, by simp, fun _ _ => rfl, fun j hj => ?_, fun i o ho => by simp at ho, ?_⟩
    · rw [getD_out hj]; exact stable_const R _
    · have : gs [] = pre := by rw [hg]; simp
      unfold RelyW at h
      rwa [this] at h
  | dsts, w0, a0, o :: os, [], gs, pre, hg, h => by unfold RelyW at h; exact h.elim
  | dsts, w0, a0, o :: os, rd :: rds, gs, pre, hg, h => by
    unfold RelyW at h
    obtain ⟨s, hs, ho, hn⟩ := h
    obtain ⟨Gs, h1, h2, h3, h4, h5⟩ := relyW_of dsts w0 a0 os rds (fun tl => gs (s :: tl)) (pre ++ [s]) (fun tl => by rw [hg]; simp) (by rw [List.length_append]; exact hn)
    have hlen : (pre ++ [s]).length = pre.length + 1 := by simp
    have hpre : ∀ j, j < pre.length → Gs.getD j (.const undef) = pre.getD j (.const undef) := fun j hj => by
      rw [h2 j (by omega), getD_app_l hj]
    have hat : Gs.getD pre.length (.const undef) = s := by
      rw [h2 _ (by omega), getD_app_r (Nat.le_refl _)]; simp
    refine ⟨Gs, by rw [h1, hlen]; simp; omega, hpre, fun j hj => ?_, fun i o' ho' => ?_, h5⟩
    · by_cases hj2 : j = pre.length
      · subst hj2; rw [hat]; exact hs
      · exact h3 j (by omega)
    · cases i with
      | zero =>
        obtain rfl : o = o' := by simpa using ho'
        intro w hw hwm
        have htake : Gs.take pre.length = gs [] := by
          rw [hg, List.append_nil]
          apply List.ext_getElem
          · simp [h1]; omega
          · intro j h6 h7
            have := hpre j h7
            rw [List.getElem_take]
            simpa [List.getD_eq_getElem?_getD, h7, h1, show j < pre.length + 1 + os.length by omega] using this
        have h8 := ho w hw (by simpa using hwm)
        rw [Nat.add_zero, htake, hat]
        exact h8
      | succ i =>
        intro w hw hwm
        have := h4 i o' (by simpa using ho') w hw (by rw [hlen, show pre.length + 1 + i = pre.length + (i + 1) by omega]; exact hwm)
        rw [hlen, show pre.length + 1 + i = pre.length + (i + 1) by omega] at this
        simpa using this

theorem next_winW {ol : List Oper} {a : Act} {w : World} (c e : Nat) (R0 R : World → World → Prop) (ws : List Nat) (St : Nat → World → Prop) (hsub : ∀ a b, R0 a b → R a b) (hrefl0 : ∀ w, R0 w w) (hstc : ∀ m x y, St m x → R0 x y → St m y) (hS0 : St 0 w) (hrefl : ∀ w, R w w) (htr : ∀ a b c, R a b → R b c → R a c)
    (rds : List (List (Tmp × Option Nat))) (dsts : List (Option Tmp)) (hds : List.replicate c none ++ ((ol.drop c).take (e - c)).map (·.dst) = dsts) (hce : (decide (c ≤ e) && decide (e ≤ ol.length)) = true)
    (hok : (relyOk ol a.tmps.size && rdsOkC c (ol.map (·.dst)) (masksFrom [] ol) c ((ol.drop c).take (e - c)) rds && waitsB (masksFrom [] ol) ol.length e) = true)
    (hC : (chainB ol ws && ws.all (fun i => decide (c ≤ i ∧ i < e))) = true) (h : ∀ Nx : Act → World → Prop, (∀ a w, Next P Q ol e a w → Nx a w) → RelyW P R0 R ws St (Exit.then Nx Q) w a dsts c (fun tl => had ((ol.take c).map (·.dst)) a ++ tl) ((ol.drop c).take (e - c)) rds) : Next P Q ol c a w := by
  have h := h (Next P Q ol e) fun _ _ x => x
  subst hds
  simp only [Bool.and_eq_true] at hC
  obtain ⟨hC, hC2⟩ := hC
  have hws : ∀ m i : Nat, ws[m]? = some i → c ≤ i ∧ i < e := fun m i hm => by simpa using List.all_eq_true.1 hC2 i (List.mem_of_getElem? hm)
  simp only [relyOk, Bool.and_eq_true, decide_eq_true_eq] at hok hce
  obtain ⟨⟨⟨⟨h1, h2⟩, h3⟩, h4⟩, h5⟩ := hok
  obtain ⟨hc1, hc2⟩ := hce
  have hl : (had ((ol.take c).map (·.dst)) a).length = c := by simp [had]; omega
  obtain ⟨Gs, g1, g2, g3, g4, g5⟩ := relyW_of _ _ _ _ _ (fun tl => had ((ol.take c).map (·.dst)) a ++ tl) (had ((ol.take c).map (·.dst)) a) (fun tl => rfl) (by rw [hl]; exact h)
  rw [hl] at g1 g2 g3 g4
  have hb : ∀ d, some d ∈ ol.map (·.dst) → d < a.tmps.size := by
    intro d hd
    obtain ⟨o, ho, hod⟩ := List.mem_map.1 hd
    have := List.all_eq_true.1 h3 o ho
    rw [hod] at this
    simpa using this
  have hpc : ∀ j n, j < c → (ol.map (·.dst)).getD j none = some n → Gs.getD j (.const undef) = .const (a.tmps.getD n undef) := by
    intro j n hj hn
    rw [g2 j hj]
    rw [List.getD_eq_getElem?_getD, List.getElem?_map] at hn
    have hjl : j < ol.length := by omega
    rw [List.getElem?_eq_getElem hjl] at hn
    simp only [Option.map_some, Option.getD_some] at hn
    simp [had, List.getD_eq_getElem?_getD, List.getElem?_take, hj, List.getElem?_eq_getElem hjl, hn]
  intro fuel listed hf hsz hin hout hcl
  refine wpAny_winW (ws := ws) (St := St) (R0 := R0) (R := R) (w0 := w) (a0 := a) (Gs := Gs) (rds := rds) c e hc1 hc2 hrefl htr hsub hrefl0 (fun j => ?_) h1 (distinct_of _ h2) hb h4 h5 hpc (chain_guard hC) (fun m i hm => (hws m i hm).2) hstc (chain_wait hC) ?_ ?_ fuel ((List.range (e - c)).map (· + c)) listed a w ?_ hsz ?_ ?_ (fun j hj => hout j (by omega)) ?_ hcl ?_ ⟨0, Nat.zero_le _, fun m i hlt _ => absurd hlt (Nat.not_lt_zero m), fun m i _ hm => hout i (hws m i hm).1, hS0⟩
  · by_cases hj : j < c
    · rw [g2 j hj]
      have hjl : j < ol.length := by omega
      simp only [had, List.getD_eq_getElem?_getD, List.getElem?_map, List.getElem?_take, hj, if_true, List.getElem?_eq_getElem hjl, Option.map_some, Option.getD_some]
      cases ol[j].dst <;> exact stable_const R _
    · exact g3 j (by omega)
  · intro i o hci hie ho w' hR hst
    have := g4 (i - c) o (by rw [List.getElem?_take, if_pos (by omega), List.getElem?_drop, show c + (i - c) = i by omega]; exact ho) w' hR (by rw [show c + (i - c) = i by omega]; exact hst)
    rw [show c + (i - c) = i by omega] at this
    have hgl : i < Gs.length := by rw [g1]; simp; omega
    refine ⟨Gs.take i, fun j hj => ?_, fun a' => given_mono (fun x => OpGoal.unthen x) _ (this a')⟩
    simp [List.getD_eq_getElem?_getD, List.getElem?_take, hj]
  · intro fuel' listed' a' w' hf' hsz' hin' hout' hcl' hI hstE
    have hlen : Gs.length = (List.replicate c (none : Option Tmp) ++ ((ol.drop c).take (e - c)).map (fun o : Oper => o.dst)).length := by rw [g1]; simp
    have hdd := distinct_of _ h2
    have hend := ends_elim w' a' (fun a => (Exit.then (Next P Q ol e) Q) .normal a w') _ Gs a hlen ?_ ?_ ?_ ?_ hI.size hI.defers (g5 w' hI.rel hstE)
    · exact hend fuel' listed' hf' hsz' hin' hout' hcl'
    · -- distinct
      have hsub1 : ∀ (ds es : List (Option Tmp)), distinct ds → List.Sublist es ds → distinct es := by
        intro ds es hd hs
        induction hs with
        | slnil => trivial
        | cons x hs ih => exact ih hd.2
        | cons_cons x hs ih => exact ⟨fun y hy hm => hd.1 y hy (hs.subset hm), ih hd.2⟩
      have hrep : ∀ (n : Nat) (es : List (Option Tmp)), distinct es → distinct (List.replicate n none ++ es) := by
        intro n es hd
        induction n with
        | zero => simpa using hd
        | succ n ih => exact ⟨fun x hx => by simp at hx, ih⟩
      exact hrep _ _ (hsub1 _ _ hdd (((List.take_sublist _ _).trans (List.drop_sublist _ _)).map (fun o : Oper => o.dst)))
    · intro d hd
      rw [hI.size]
      rcases List.mem_append.1 hd with hd | hd
      · simp at hd
      · exact hb d ((((List.take_sublist (e - c) (ol.drop c)).trans (List.drop_sublist c ol)).map (fun o : Oper => o.dst)).subset hd)
    · intro j d hj
      by_cases hjc : j < c
      · rw [List.getElem?_append_left (by simpa using hjc)] at hj
        obtain rfl : d = none := by simpa [hjc] using hj.symm
        have hjl : j < ol.length := by omega
        rw [g2 j hjc]
        simp only [had, List.getD_eq_getElem?_getD, List.getElem?_map, List.getElem?_take, hjc, if_true, List.getElem?_eq_getElem hjl, Option.map_some, Option.getD_some]
        cases ol[j].dst <;> exact ⟨_, rfl⟩
      · rw [List.getElem?_append_right (by simpa using Nat.le_of_not_lt hjc), List.length_replicate, List.getElem?_map, List.getElem?_take, List.getElem?_drop] at hj
        by_cases hje : j - c < e - c
        · rw [if_pos hje, show c + (j - c) = j by omega] at hj
          have hjl : j < ol.length := by omega
          rw [List.getElem?_eq_getElem hjl] at hj
          obtain rfl : ol[j].dst = d := by simpa using hj
          exact hI.done j _ (List.getElem?_eq_getElem hjl) (hin' j (by omega))
        · rw [if_neg hje] at hj
          simp at hj
    · intro d hd
      by_cases hex : ∃ j, j < c ∧ (ol.map (·.dst)).getD j none = some d
      · obtain ⟨j, hjc, hjn⟩ := hex
        have hjl : j < ol.length := by omega
        have h6 := hI.done j _ (List.getElem?_eq_getElem hjl) (hin' j (by omega))
        have hox : ol[j].dst = some d := by
          rw [List.getD_eq_getElem?_getD, List.getElem?_map, List.getElem?_eq_getElem hjl] at hjn
          simpa using hjn
        rw [hox, hpc j d hjc hjn] at h6
        exact h6
      · refine hI.rest d (fun j o ho hdo => ?_)
        have hjl : j < ol.length := (List.getElem?_eq_some_iff.1 ho).1
        by_cases hjc : j < c
        · exact absurd ⟨j, hjc, by simp [List.getD_eq_getElem?_getD, ho, hdo]⟩ hex
        · by_cases hje : j < e
          · refine absurd (List.mem_append_right _ (List.mem_map.2 ⟨o, ?_, hdo⟩)) hd
            have : ((ol.drop c).take (e - c))[j - c]? = some o := by rw [List.getElem?_take, if_pos (by omega), List.getElem?_drop, show c + (j - c) = j by omega]; exact ho
            exact List.mem_of_getElem? this
          · exact hout' j (by omega)
  · have : ol.length - c ≤ fuel := hf
    simp; omega
  · intro j hj
    by_cases hjc : j < c
    · rw [hin j hjc]
      simp; omega
    · rw [hout j (by omega)]
      simp only [List.mem_map, List.mem_range, true_iff]
      exact ⟨j - c, by omega, by omega⟩
  · intro j hj
    simp only [List.mem_map, List.mem_range] at hj
    obtain ⟨x, hx, rfl⟩ := hj
    omega
  · exact (List.nodup_range).map _ (fun a b hab h => hab (by omega))
  · refine ⟨hrefl _, rfl, rfl, fun j o ho hl2 => ?_, fun _ _ => rfl⟩
    have hjl : j < ol.length := (List.getElem?_eq_some_iff.1 ho).1
    have hjc : j < c := by
      rcases Nat.lt_or_ge j c with x | x
      · exact x
      · rw [hout j x] at hl2; cases hl2
    cases hdst : o.dst with
    | none =>
      refine ⟨undef, ?_⟩
      rw [g2 j hjc]
      have : ol[j] = o := by rw [List.getElem?_eq_getElem hjl] at ho; exact Option.some.inj ho
      simp only [had, List.getD_eq_getElem?_getD, List.getElem?_map, List.getElem?_take, hjc, if_true, ho, Option.map_some, Option.getD_some, hdst]
      rfl
    | some n =>
      show Sat _ (a.tmps.getD n undef) w
      rw [hpc j n hjc (by simp [List.getD_eq_getElem?_getD, ho, hdst])]
      rfl

end
section
variable {P : Program} {R0 R : World → World → Prop} {ws : List Nat} {St : Nat → World → Prop} {Q : Exit → Act → World → Prop} {w0 : World} {a0 : Act} {dsts : List (Option Tmp)} {k : Nat} {gs : List Spec → List Spec} {os : List Oper} {rd : List (Tmp × Option Nat)} {rds : List (List (Tmp × Option Nat))}
variable {dst : Option Tmp} {op : Op} {ty : TypeId} {pos : String} {after : Array Edge}
theorem relyW_end (h : ∀ w, R w0 w → St ws.length w → ends w (fun a => Q .normal a w) dsts (gs []) a0) : RelyW P R0 R ws St Q w0 a0 dsts k gs [] rds := by
  unfold RelyW; exact h
theorem no_writer (hk : ws.contains k = false) : ∀ m : Nat, ws[m]? ≠ some k := fun m hm => by
  have : ws.contains k = true := by simpa using List.mem_of_getElem? hm
  rw [hk] at this; cases this
/-- One that keeps to R0, of one value. -/
theorem relyW_const (hk : ws.contains k = false) (hsub : ∀ a b, R0 a b → R a b) (c : Value) (h : ∀ w, R w0 w → ∀ a : Act, given w (gs []) a0 a rd (∀ K : Act → World → Prop, (∀ w', R0 w w' → K (a.put dst c) w') → wpList P #[⟨dst, op, ty, pos, #[], none⟩] (Exit.then K Q) [⟨dst, op, ty, pos, #[], none⟩] a w))
    (hn : RelyW P R0 R ws St Q w0 a0 dsts (k + 1) (fun tl => gs (.const c :: tl)) os rds) : RelyW P R0 R ws St Q w0 a0 dsts k gs (⟨dst, op, ty, pos, after, none⟩ :: os) (rd :: rds) := by
  unfold RelyW
  exact ⟨.const c, stable_const R c, fun w hw _ a => given_mono (fun hK K hn => hK K fun w' hR => hn c w' ⟨hsub _ _ hR, fun m hm => absurd hm (no_writer hk m), fun _ => hR⟩ rfl) _ (h w hw a), hn⟩
theorem relyW_rel (hk : ws.contains k = false) (hsub : ∀ a b, R0 a b → R a b) (G : Value → World → Prop) (hst : ∀ v w w', G v w → R w w' → G v w') (h : ∀ w, R w0 w → ∀ a : Act, given w (gs []) a0 a rd (∀ K : Act → World → Prop, (∀ v w', R0 w w' → G v w' → K (a.put dst v) w') → wpList P #[⟨dst, op, ty, pos, #[], none⟩] (Exit.then K Q) [⟨dst, op, ty, pos, #[], none⟩] a w))
    (hn : RelyW P R0 R ws St Q w0 a0 dsts (k + 1) (fun tl => gs (.rel G :: tl)) os rds) : RelyW P R0 R ws St Q w0 a0 dsts k gs (⟨dst, op, ty, pos, after, none⟩ :: os) (rd :: rds) := by
  unfold RelyW
  exact ⟨.rel G, hst, fun w hw _ a => given_mono (fun hK K hn => hK K fun v w' hR hG => hn v w' ⟨hsub _ _ hR, fun m hm => absurd hm (no_writer hk m), fun _ => hR⟩ hG) _ (h w hw a), hn⟩
/-- The m-th that writes: it goes from stage m to stage m + 1. -/
theorem relyW_the (m : Nat) (hm : ws[m]? = some k) (G : Value → World → Prop) (hst : ∀ v w w', G v w → R w w' → G v w') (hnd : ws.Nodup) (h : ∀ w, R w0 w → St m w → ∀ a : Act, given w (gs []) a0 a rd (∀ K : Act → World → Prop, (∀ v w', R w w' → St (m + 1) w' → G v w' → K (a.put dst v) w') → wpList P #[⟨dst, op, ty, pos, #[], none⟩] (Exit.then K Q) [⟨dst, op, ty, pos, #[], none⟩] a w))
    (hn : RelyW P R0 R ws St Q w0 a0 dsts (k + 1) (fun tl => gs (.rel G :: tl)) os rds) : RelyW P R0 R ws St Q w0 a0 dsts k gs (⟨dst, op, ty, pos, after, none⟩ :: os) (rd :: rds) := by
  unfold RelyW
  exact ⟨.rel G, hst, fun w hw hs a => given_mono (fun hK K hn => hK K fun v w' hR hS hG => hn v w' ⟨hR, fun m' hm' => by rw [show m' = m from ((List.getElem?_inj (List.getElem?_eq_some_iff.1 hm).1 hnd).1 (hm.trans hm'.symm)).symm]; exact hS, fun x => absurd hm (x m)⟩ hG) _ (h w hw (hs m hm) a), hn⟩
end
end Go.Proofs.Ytfpeeilenocaoaa.Rely
