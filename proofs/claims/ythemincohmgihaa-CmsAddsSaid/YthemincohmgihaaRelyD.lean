/- A region that draws, by what each operation promises, where ONE operation (the one of number d) may do more than the others (R, where they keep to R0): it runs once, so at its turn only what the others do has happened. It speaks of no program. -/
import Derived.Test.YthemincohmgihaaRely
namespace Go.Proofs.Ythemincohmgihaa.Rely


section
variable (P : Program) (R0 R : World → World → Prop) (d E : Nat) (Q : Exit → Act → World → Prop) (w0 : World) (a0 : Act) (dsts : List (Option Tmp))
/-- Operation by operation; gs: what those before have promised. -/
def RelyD : Nat → (List Spec → List Spec) → List Oper → List (List (Tmp × Option Nat)) → Prop
  | _, gs, [], _ => ∀ w, R w0 w → ends w (fun a => Q .normal a w) dsts (gs []) a0
  | k, gs, o :: os, rd :: rds => ∃ s, Stable R s ∧ (∀ w, (if k = d ∨ E.testBit k = true then R0 else R) w0 w → ∀ a : Act, given w (gs []) a0 a rd (OpGoal P (if k = d then R else R0) Q (gs []) o s w a)) ∧ RelyD (k + 1) (fun tl => gs (s :: tl)) os rds
  | _, _, _ :: _, [] => False
end

section
variable {P : Program} {ops : Array Oper} {Q : Exit → Act → World → Prop} {R0 R : World → World → Prop} {dd E : Nat}
theorem wpAny_relyD {w0 : World} {a0 : Act} {l : List Oper} {Gs : List Spec} {rds : List (List (Tmp × Option Nat))} (hlen : Gs.length = l.length) (hrefl : ∀ w, R w w) (htr : ∀ a b c, R a b → R b c → R a c) (hsub : ∀ a b, R0 a b → R a b) (hrefl0 : ∀ w, R0 w w) (htr0 : ∀ a b c, R0 a b → R0 b c → R0 a c) (hst : ∀ j, Stable R (Gs.getD j (.const undef)))
    (hback : backB 0 l = true) (hd : distinct (l.map (·.dst))) (hb : ∀ d, some d ∈ l.map (·.dst) → d < a0.tmps.size) (hrd : rdsOk (l.map (·.dst)) (masksFrom [] l) 0 l rds = true)
    (hE : (masksFrom [] l).getD dd 0 = E) (hop : ∀ i o, l[i]? = some o → ∀ w, (if i = dd ∨ E.testBit i = true then R0 else R) w0 w → ∃ gs : List Spec, (∀ j, j < i → gs.getD j (.const undef) = Gs.getD j (.const undef)) ∧ ∀ a : Act, given w gs a0 a (rds.getD i []) (OpGoal P (if i = dd then R else R0) Q gs o (Gs.getD i (.const undef)) w a))
    (hend : ∀ w, R w0 w → ends w (fun a => Q .normal a w) (l.map (·.dst)) Gs a0) :
    ∀ (fuel : Nat) (rem : List Nat) (listed : Array Bool) (a : Act) (w : World), rem.length ≤ fuel → listed.size = l.length → (∀ j, j < l.length → (listed.getD j false = false ↔ j ∈ rem)) → (∀ j ∈ rem, j < l.length) → rem.Nodup →
      Closed l.toArray listed → Inv R w0 a0 l Gs listed a w → (listed.getD dd false = false → R0 w0 w) → wpAny P .any l.toArray Q fuel listed a w := by
  have fin : ∀ (listed : Array Bool) (a : Act) (w : World), (∀ j, j < l.length → listed.getD j false = true) → Inv R w0 a0 l Gs listed a w → Q .normal a w := by
    intro listed a w hall hI
    refine ends_elim w a (fun a => Q .normal a w) _ Gs a0 (by simpa using hlen) hd (fun d q => by rw [hI.size]; exact hb d q) (fun j d hj => ?_) (fun d q => ?_) hI.size hI.defers (hend w hI.rel)
    · have hj' : j < l.length := by
        have := (List.getElem?_eq_some_iff.1 hj).1
        simpa using this
      have ho : l[j]? = some l[j] := List.getElem?_eq_getElem hj'
      have hdj : d = l[j].dst := by simpa [ho] using hj.symm
      rw [hdj]
      exact hI.done j _ ho (hall j hj')
    · refine hI.rest d (fun j o ho hdo => ?_)
      exact absurd (by rw [← hdo]; exact List.mem_map_of_mem (List.mem_of_getElem? ho)) q
  have some_ready : ∀ (listed : Array Bool) (rem : List Nat), listed.size = l.length → (∀ j, j < l.length → (listed.getD j false = false ↔ j ∈ rem)) → (∀ j ∈ rem, j < l.length) → Region.ready .any l.toArray listed = [] → ∀ j, j ∉ rem := by
    intro listed rem hsz hrem hlt hr j
    induction j using Nat.strongRecOn with
    | _ j ih =>
      intro hj
      have hjl := hlt j hj
      have ho : l.toArray[j]? = some l[j] := by simp [hjl]
      have : j ∈ Region.ready .any l.toArray listed := by
        refine mem_ready.2 ⟨?_, _, ho, fun e he hbd => ?_⟩
        · have h2 := (hrem j hjl).2 hj
          have : j < listed.size := by omega
          simpa [this] using h2
        · have h1 := back_of l 0 hback j l[j] (List.getElem?_eq_getElem hjl) e he hbd
          have h2 := ih e.on (by omega)
          cases h3 : listed.getD e.on false with
          | true => rfl
          | false => exact absurd ((hrem e.on (by omega)).1 h3) h2
      rw [hr] at this
      cases this
  intro fuel
  induction fuel with
  | zero =>
    intro rem listed a w hlen2 hsz hrem hlt hnd hc hI hpre
    obtain rfl : rem = [] := List.eq_nil_of_length_eq_zero (by omega)
    refine ⟨?_, fin listed a w (fun j hj => ?_) hI⟩
    · rw [List.eq_nil_iff_forall_not_mem]
      intro i hi
      obtain ⟨h1, oi, hoi, _⟩ := mem_ready.1 hi
      have hi' : i < l.length := by
        have := (Array.getElem?_eq_some_iff.1 hoi).1
        simpa using this
      have h2 : listed.getD i false = false := by
        have : i < listed.size := by omega
        simpa [this] using h1
      have := (hrem i hi').1 h2
      cases this
    · cases h : listed.getD j false with
      | true => rfl
      | false => exact absurd ((hrem j hj).1 h) (by simp)
  | succ fuel ih =>
    intro rem listed a w hlen2 hsz hrem hlt hnd hc hI hpre
    refine ⟨fun hr => ?_, fun i hi => ?_⟩
    · refine fin listed a w (fun j hj => ?_) hI
      cases h : listed.getD j false with
      | true => rfl
      | false => exact absurd ((hrem j hj).1 h) (some_ready listed rem hsz hrem hlt hr j)
    · obtain ⟨h1, oi, hoi, _⟩ := mem_ready.1 hi
      have hi' : i < l.length := by
        have := (Array.getElem?_eq_some_iff.1 hoi).1
        simpa using this
      have hol : l[i]? = some oi := by simpa using hoi
      have his : i < listed.size := by omega
      have h2 : listed.getD i false = false := by simpa [his] using h1
      have hmem := (hrem i hi').1 h2
      have good : ∀ listed' : Array Bool, Closed l.toArray listed' → ∀ i j, ((masksFrom [] l).getD i 0).testBit j = true → listed'.getD i false = true → listed'.getD j false = true := by
        intro listed' hc'
        refine masks_good listed' l [] 0 rfl (fun i o ho e he hbd hl => ?_) (fun i j hb => by simp at hb)
        exact hc' i o (by simpa using ho) (by simpa using hl) e he hbd
      have back : ∀ i j, ((masksFrom [] l).getD i 0).testBit j = true → j < i := masks_back l [] 0 rfl hback (fun i j hb => by simp at hb)
      have need : ∀ j, ((masksFrom [] l).getD i 0).testBit j = true → listed.getD j false = true := by
        intro j hbit
        have h3 := good _ (hc.set hi) i j hbit (by simp [his])
        have h4 := back i j hbit
        rwa [getD_set_ne false (by omega)] at h3
      have later : ∀ j, ((masksFrom [] l).getD j 0).testBit i = true → listed.getD j false = false := by
        intro j hbit
        cases h6 : listed.getD j false with
        | false => rfl
        | true =>
          have := good _ hc j i hbit h6
          rw [this] at h2
          cases h2
      have hrel : (if i = dd ∨ E.testBit i = true then R0 else R) w0 w := by
        by_cases hid : i = dd
        · rw [if_pos (.inl hid)]; exact hpre (by rw [← hid]; exact h2)
        · by_cases hie : E.testBit i = true
          · rw [if_pos (.inr hie)]; exact hpre (later dd (by rw [hE]; exact hie))
          · rw [if_neg (fun x => x.elim hid hie)]; exact hI.rel
      obtain ⟨gs, hge, hview⟩ := hop i oi hol w hrel
      have hrd2 := rdsOk_at hrd i oi hol
      rw [Nat.zero_add] at hrd2
      have hdst : ∀ j x, (l.map (·.dst)).getD j none = some x → ∃ o, l[j]? = some o ∧ o.dst = some x := by
        intro j x hx
        rw [List.getD_eq_getElem?_getD, List.getElem?_map] at hx
        cases ho : l[j]? with
        | none => rw [ho] at hx; simp at hx
        | some o => rw [ho] at hx; exact ⟨o, rfl, by simpa using hx⟩
      have hval : ∀ j x, (l.map (·.dst)).getD j none = some x → ((masksFrom [] l).getD i 0).testBit j = true → Sat (gs.getD j (.const undef)) (a.tmps.getD x undef) w := by
        intro j x hx hbit
        obtain ⟨o, ho, hox⟩ := hdst j x hx
        have h3 := hI.done j o ho (need j hbit)
        rw [hox] at h3
        rw [hge j (back i j hbit)]
        exact h3
      have hgoal : OpGoal P (if i = dd then R else R0) Q gs oi (Gs.getD i (.const undef)) w a := by
        refine given_elim _ (fun n hn => ?_) (fun n j hn => ?_) (hview a)
        · refine hI.rest n (fun j o ho hdo => ?_)
          have hjl : j < l.length := (List.getElem?_eq_some_iff.1 ho).1
          rcases rdOk_none hrd2.1 hn j (by simpa using hjl) (by simp [List.getD_eq_getElem?_getD, ho, hdo]) with rfl | h3
          · exact h2
          · exact later j h3
        · have h3 := rdOk_some hrd2.1 hn
          exact hval j n h3.1 h3.2
      have next : ∀ v w', (if i = dd then R else R0) w w' → Sat (Gs.getD i (.const undef)) v w' → wpAny P .any l.toArray Q fuel (listed.setIfInBounds i true) (a.put oi.dst v) w' := by
        intro v w' hR1 hv
        have hR : R w w' := by
          by_cases hid : i = dd
          · rw [if_pos hid] at hR1; exact hR1
          · rw [if_neg hid] at hR1; exact hsub _ _ hR1
        refine ih (rem.erase i) _ _ _ ?_ (by simpa using hsz) ?_ (fun j hj => hlt j (List.mem_of_mem_erase hj)) (hnd.erase i) (hc.set hi) (hI.put htr hst hd hb hol his hR hv) (fun hnl => ?_)
        · rw [List.length_erase_of_mem hmem]; omega
        · intro j hj
          by_cases hij : i = j
          · subst hij
            simp only [List.Nodup.mem_erase_iff hnd, ne_eq, not_true_eq_false, false_and, iff_false]
            simp [his]
          · rw [getD_set_ne false hij, hrem j hj, List.Nodup.mem_erase_iff hnd]
            exact ⟨fun h => ⟨fun e => hij e.symm, h⟩, fun h => h.2⟩
        · have hid : ¬ i = dd := by
            rintro rfl
            simp [his] at hnl
          rw [getD_set_ne false hid] at hnl
          rw [if_neg hid] at hR1
          exact htr0 _ _ _ (hpre hnl) hR1
      unfold wpOp
      rw [hoi]
      simp only
      unfold OpGoal at hgoal
      cases hg : oi.guard with
      | none =>
        rw [hg] at hgoal
        rw [if_pos (show Region.wanted oi (yielded l.toArray a.tmps) = true by simp [Region.wanted, hg])]
        exact wpList_single (hgoal _ next)
      | some p =>
        obtain ⟨j, b⟩ := p
        rw [hg] at hgoal
        simp only at hgoal
        obtain ⟨hsm, hbit⟩ := hrd2.2 j b hg
        obtain ⟨x, hx⟩ := Option.isSome_iff_exists.1 hsm
        have hv := hval j x hx hbit
        obtain ⟨o, ho, hox⟩ := hdst j x hx
        have hxs : x < a.tmps.size := by
          rw [hI.size]
          exact hb x (by rw [← hox]; exact List.mem_map_of_mem (List.mem_of_getElem? ho))
        cases hs : gs.getD j (.const undef) with
        | rel G => rw [hs] at hgoal; exact hgoal.elim
        | const c =>
          rw [hs] at hgoal hv
          have hv : a.tmps.getD x undef = c := hv
          cases c with
          | bool c =>
            have hy : yielded l.toArray a.tmps j = some c := by
              unfold yielded
              have e1 : ((l.toArray[j]?).bind (·.dst)) = some x := by simp [ho, hox]
              rw [e1]
              simp only [Option.bind_some]
              have e2 : a.tmps[x]? = some (.bool c) := by
                rw [Array.getElem?_eq_getElem hxs]
                simp only [Array.getD_eq_getD_getElem?, Array.getElem?_eq_getElem hxs, Option.getD_some] at hv
                rw [hv]
              rw [e2]
            have hw : Region.wanted oi (yielded l.toArray a.tmps) = (c == b) := by
              unfold Region.wanted
              rw [hg]
              simp only [hy]
              cases c <;> cases b <;> rfl
            rw [hw]
            simp only at hgoal
            cases hcb : (c == b) with
            | true =>
              rw [hcb] at hgoal
              simp only [if_true] at hgoal ⊢
              exact wpList_single (hgoal _ next)
            | false =>
              rw [hcb] at hgoal
              simp only [Bool.false_eq_true, if_false] at hgoal ⊢
              exact next undef w (by by_cases hid : i = dd; (rw [if_pos hid]; exact hrefl w); (rw [if_neg hid]; exact hrefl0 w)) hgoal
          | _ => exact hgoal.elim

theorem relyD_of : ∀ (dsts : List (Option Tmp)) (w0 : World) (a0 : Act) (os : List Oper) (rds : List (List (Tmp × Option Nat))) (gs : List Spec → List Spec) (pre : List Spec), (∀ tl, gs tl = pre ++ tl) → RelyD P R0 R dd E Q w0 a0 dsts pre.length gs os rds →
    ∃ Gs : List Spec, Gs.length = pre.length + os.length ∧ (∀ j, j < pre.length → Gs.getD j (.const undef) = pre.getD j (.const undef)) ∧ (∀ j, pre.length ≤ j → Stable R (Gs.getD j (.const undef))) ∧
      (∀ i o, os[i]? = some o → ∀ w, (if pre.length + i = dd ∨ E.testBit (pre.length + i) = true then R0 else R) w0 w → ∀ a : Act, given w (Gs.take (pre.length + i)) a0 a (rds.getD i []) (OpGoal P (if pre.length + i = dd then R else R0) Q (Gs.take (pre.length + i)) o (Gs.getD (pre.length + i) (.const undef)) w a)) ∧
      (∀ w, R w0 w → ends w (fun a => Q .normal a w) dsts Gs a0)
  | dsts, w0, a0, [], rds, gs, pre, hg, h => by
    refine ⟨pre, by simp, fun _ _ => rfl, fun j hj => ?_, fun i o ho => by simp at ho, ?_⟩
    · rw [getD_out hj]; exact stable_const R _
    · have : gs [] = pre := by rw [hg]; simp
      unfold RelyD at h
      rwa [this] at h
  | dsts, w0, a0, o :: os, [], gs, pre, hg, h => by unfold RelyD at h; exact h.elim
  | dsts, w0, a0, o :: os, rd :: rds, gs, pre, hg, h => by
    unfold RelyD at h
    obtain ⟨s, hs, ho, hn⟩ := h
    obtain ⟨Gs, h1, h2, h3, h4, h5⟩ := relyD_of dsts w0 a0 os rds (fun tl => gs (s :: tl)) (pre ++ [s]) (fun tl => by rw [hg]; simp) (by rw [List.length_append]; exact hn)
    have hlen : (pre ++ [s]).length = pre.length + 1 := by simp
    have hpre : ∀ j, j < pre.length → Gs.getD j (.const undef) = pre.getD j (.const undef) := fun j hj => by
      rw [h2 j (by omega), getD_app_l hj]
    have hat : Gs.getD pre.length (.const undef) = s := by
      rw [h2 _ (by omega), getD_app_r (Nat.le_refl _)]; simp
    refine ⟨Gs, by rw [h1, hlen]; simp; omega, hpre, fun j hj => ?_, fun i o' ho' => ?_, h5⟩
    · by_cases hj2 : j = pre.length
      · subst hj2; rw [hat]; exact hs
      · exact h3 j (by omega)
    · cases i with
      | zero =>
        obtain rfl : o = o' := by simpa using ho'
        intro w hw
        have htake : Gs.take pre.length = gs [] := by
          rw [hg, List.append_nil]
          apply List.ext_getElem
          · simp [h1]; omega
          · intro j h6 h7
            have := hpre j h7
            rw [List.getElem_take]
            simpa [List.getD_eq_getElem?_getD, h7, h1, show j < pre.length + 1 + os.length by omega] using this
        have h8 := ho w (by rw [Nat.add_zero] at hw; exact hw)
        rw [Nat.add_zero, htake, hat]
        exact h8
      | succ i =>
        intro w hw
        have := h4 i o' (by simpa using ho') w (by rw [hlen, show pre.length + 1 + i = pre.length + (i + 1) by omega]; exact hw)
        rw [hlen, show pre.length + 1 + i = pre.length + (i + 1) by omega] at this
        simpa using this

/-- **A region that draws, by what each operation promises.** -/
theorem wp_region_relyD {id : Nat} {a : Act} {w : World} {ol : List Oper} (hm : P.follows .mixedOrders = true) (R0 R : World → World → Prop) (dd E : Nat) (hsub : ∀ a b, R0 a b → R a b) (hrefl0 : ∀ w, R0 w w) (htr0 : ∀ a b c, R0 a b → R0 b c → R0 a c) (hrefl : ∀ w, R w w) (htr : ∀ a b c, R a b → R b c → R a c)
    (rds : List (List (Tmp × Option Nat))) (dsts : List (Option Tmp)) (hds : ol.map (·.dst) = dsts) (hok : (relyOk ol a.tmps.size && rdsOk dsts (masksFrom [] ol) 0 ol rds) = true)
    (hE : (masksFrom [] ol).getD dd 0 = E) (h : RelyD P R0 R dd E Q w.drew a dsts 0 (fun tl => tl) ol rds) : (Code.region id ol.toArray true).wp P Q a w := by
  subst hds
  simp only [relyOk, Bool.and_eq_true] at hok
  obtain ⟨⟨⟨h1, h2⟩, h3⟩, h4⟩ := hok
  obtain ⟨Gs, g1, _, g3, g4, g5⟩ := relyD_of _ _ _ _ _ _ [] (fun tl => by simp) h
  have hb : ∀ d, some d ∈ ol.map (·.dst) → d < a.tmps.size := by
    intro d hd
    obtain ⟨o, ho, hod⟩ := List.mem_map.1 hd
    have := List.all_eq_true.1 h3 o ho
    rw [hod] at this
    simpa using this
  refine wp_region_any hm (wpAny_relyD (dd := dd) (R0 := R0) (R := R) (w0 := w.drew) (a0 := a) (Gs := Gs) (by simpa using g1) hrefl htr hsub hrefl0 htr0 (fun j => g3 j (by simp)) h1 (distinct_of _ h2) hb h4 hE ?_ g5 _ (List.range ol.length) _ a _ (by simp) (by simp) ?_ (fun j hj => by simpa using hj) List.nodup_range ?_ ?_ (fun _ => hrefl0 _))
  · intro i o ho w' hR
    have hi : i < ol.length := (List.getElem?_eq_some_iff.1 ho).1
    have := g4 i o ho w' (by simpa using hR)
    simp only [List.length_nil, Nat.zero_add] at this g1
    refine ⟨Gs.take i, fun j hj => ?_, this⟩
    simp [List.getD_eq_getElem?_getD, List.getElem?_take, hj]
  · intro j hj
    simp [hj]
  · intro j oj hj hl
    have hj' : j < ol.length := by
      have := (Array.getElem?_eq_some_iff.1 hj).1
      simpa using this
    simp [hj'] at hl
  · refine ⟨hrefl _, rfl, rfl, fun j o ho hl => ?_, fun _ _ => rfl⟩
    have hj' : j < ol.length := (List.getElem?_eq_some_iff.1 ho).1
    simp [hj'] at hl
end

/-! ### the steps -/
section
variable {P : Program} {R0 R : World → World → Prop} {dd E : Nat} {Q : Exit → Act → World → Prop} {w0 : World} {a0 : Act} {dsts : List (Option Tmp)} {k : Nat} {gs : List Spec → List Spec} {os : List Oper} {rd : List (Tmp × Option Nat)} {rds : List (List (Tmp × Option Nat))}
variable {dst : Option Tmp} {op : Op} {ty : TypeId} {pos : String} {after : Array Edge}

theorem relyD_end (h : ∀ w, R w0 w → ends w (fun a => Q .normal a w) dsts (gs []) a0) : RelyD P R0 R dd E Q w0 a0 dsts k gs [] rds := by
  unfold RelyD; exact h
/-- An operation of one value, whatever the others do. -/
theorem relyD_const (hk : k ≠ dd) (he : E.testBit k = false) (c : Value) (h : ∀ w, R w0 w → ∀ a : Act, given w (gs []) a0 a rd (∀ K : Act → World → Prop, (∀ w', R0 w w' → K (a.put dst c) w') → wpList P #[⟨dst, op, ty, pos, #[], none⟩] (Exit.then K Q) [⟨dst, op, ty, pos, #[], none⟩] a w))
    (hn : RelyD P R0 R dd E Q w0 a0 dsts (k + 1) (fun tl => gs (.const c :: tl)) os rds) : RelyD P R0 R dd E Q w0 a0 dsts k gs (⟨dst, op, ty, pos, after, none⟩ :: os) (rd :: rds) := by
  unfold RelyD
  rw [if_neg (fun x => x.elim hk (by rw [he]; decide)), if_neg hk]
  exact ⟨.const c, stable_const R c, fun w hw a => given_mono (fun hK K hn => hK K fun w' hR => hn c w' hR rfl) _ (h w hw a), hn⟩
/-- One of whose value something holds. -/
theorem relyD_rel (hk : k ≠ dd) (he : E.testBit k = false) (G : Value → World → Prop) (hst : ∀ v w w', G v w → R w w' → G v w') (h : ∀ w, R w0 w → ∀ a : Act, given w (gs []) a0 a rd (∀ K : Act → World → Prop, (∀ v w', R0 w w' → G v w' → K (a.put dst v) w') → wpList P #[⟨dst, op, ty, pos, #[], none⟩] (Exit.then K Q) [⟨dst, op, ty, pos, #[], none⟩] a w))
    (hn : RelyD P R0 R dd E Q w0 a0 dsts (k + 1) (fun tl => gs (.rel G :: tl)) os rds) : RelyD P R0 R dd E Q w0 a0 dsts k gs (⟨dst, op, ty, pos, after, none⟩ :: os) (rd :: rds) := by
  unfold RelyD
  rw [if_neg (fun x => x.elim hk (by rw [he]; decide)), if_neg hk]
  exact ⟨.rel G, hst, h, hn⟩
/-- The one that may do more. -/
theorem relyD_the (hk : k = dd) (G : Value → World → Prop) (hst : ∀ v w w', G v w → R w w' → G v w') (h : ∀ w, R0 w0 w → ∀ a : Act, given w (gs []) a0 a rd (∀ K : Act → World → Prop, (∀ v w', R w w' → G v w' → K (a.put dst v) w') → wpList P #[⟨dst, op, ty, pos, #[], none⟩] (Exit.then K Q) [⟨dst, op, ty, pos, #[], none⟩] a w))
    (hn : RelyD P R0 R dd E Q w0 a0 dsts (k + 1) (fun tl => gs (.rel G :: tl)) os rds) : RelyD P R0 R dd E Q w0 a0 dsts k gs (⟨dst, op, ty, pos, after, none⟩ :: os) (rd :: rds) := by
  unfold RelyD
  rw [if_pos (.inl hk), if_pos hk]
  exact ⟨.rel G, hst, h, hn⟩
theorem relyD_const_the (hk : k = dd) (c : Value) (h : ∀ w, R0 w0 w → ∀ a : Act, given w (gs []) a0 a rd (∀ K : Act → World → Prop, (∀ w', R w w' → K (a.put dst c) w') → wpList P #[⟨dst, op, ty, pos, #[], none⟩] (Exit.then K Q) [⟨dst, op, ty, pos, #[], none⟩] a w))
    (hn : RelyD P R0 R dd E Q w0 a0 dsts (k + 1) (fun tl => gs (.const c :: tl)) os rds) : RelyD P R0 R dd E Q w0 a0 dsts k gs (⟨dst, op, ty, pos, after, none⟩ :: os) (rd :: rds) := by
  unfold RelyD
  rw [if_pos (.inl hk), if_pos hk]
  exact ⟨.const c, stable_const R c, fun w hw a => given_mono (fun hK K hn => hK K fun w' hR => hn c w' hR rfl) _ (h w hw a), hn⟩
/-- The same, guarded; the guard lets it in. -/
theorem relyD_const_in (hk : k ≠ dd) (he : E.testBit k = false) {j : Nat} {b : Bool} (c : Value) (hg : (gs []).getD j (.const undef) = .const (.bool b)) (h : ∀ w, R w0 w → ∀ a : Act, given w (gs []) a0 a rd (∀ K : Act → World → Prop, (∀ w', R0 w w' → K (a.put dst c) w') → wpList P #[⟨dst, op, ty, pos, #[], none⟩] (Exit.then K Q) [⟨dst, op, ty, pos, #[], none⟩] a w))
    (hn : RelyD P R0 R dd E Q w0 a0 dsts (k + 1) (fun tl => gs (.const c :: tl)) os rds) : RelyD P R0 R dd E Q w0 a0 dsts k gs (⟨dst, op, ty, pos, after, some (j, b)⟩ :: os) (rd :: rds) := by
  unfold RelyD
  rw [if_neg (fun x => x.elim hk (by rw [he]; decide)), if_neg hk]
  refine ⟨.const c, stable_const R c, fun w hw a => given_mono (fun hK => ?_) _ (h w hw a), hn⟩
  unfold OpGoal
  simp only [hg, beq_self_eq_true, if_true]
  exact fun K hn => hK K fun w' hR => hn c w' hR rfl
theorem relyD_rel_in (hk : k ≠ dd) (he : E.testBit k = false) {j : Nat} {b : Bool} (G : Value → World → Prop) (hst : ∀ v w w', G v w → R w w' → G v w') (hg : (gs []).getD j (.const undef) = .const (.bool b)) (h : ∀ w, R w0 w → ∀ a : Act, given w (gs []) a0 a rd (∀ K : Act → World → Prop, (∀ v w', R0 w w' → G v w' → K (a.put dst v) w') → wpList P #[⟨dst, op, ty, pos, #[], none⟩] (Exit.then K Q) [⟨dst, op, ty, pos, #[], none⟩] a w))
    (hn : RelyD P R0 R dd E Q w0 a0 dsts (k + 1) (fun tl => gs (.rel G :: tl)) os rds) : RelyD P R0 R dd E Q w0 a0 dsts k gs (⟨dst, op, ty, pos, after, some (j, b)⟩ :: os) (rd :: rds) := by
  unfold RelyD
  rw [if_neg (fun x => x.elim hk (by rw [he]; decide)), if_neg hk]
  refine ⟨.rel G, hst, fun w hw a => given_mono (fun hK => ?_) _ (h w hw a), hn⟩
  unfold OpGoal
  simp only [hg, beq_self_eq_true, if_true]
  exact hK
theorem relyD_the_in (hk : k = dd) {j : Nat} {b : Bool} (G : Value → World → Prop) (hst : ∀ v w w', G v w → R w w' → G v w') (hg : (gs []).getD j (.const undef) = .const (.bool b)) (h : ∀ w, R0 w0 w → ∀ a : Act, given w (gs []) a0 a rd (∀ K : Act → World → Prop, (∀ v w', R w w' → G v w' → K (a.put dst v) w') → wpList P #[⟨dst, op, ty, pos, #[], none⟩] (Exit.then K Q) [⟨dst, op, ty, pos, #[], none⟩] a w))
    (hn : RelyD P R0 R dd E Q w0 a0 dsts (k + 1) (fun tl => gs (.rel G :: tl)) os rds) : RelyD P R0 R dd E Q w0 a0 dsts k gs (⟨dst, op, ty, pos, after, some (j, b)⟩ :: os) (rd :: rds) := by
  unfold RelyD
  rw [if_pos (.inl hk), if_pos hk]
  refine ⟨.rel G, hst, fun w hw a => given_mono (fun hK => ?_) _ (h w hw a), hn⟩
  unfold OpGoal
  simp only [hg, beq_self_eq_true, if_true]
  exact hK
theorem relyD_const_e (hk : k ≠ dd) (he : E.testBit k = true) (c : Value) (h : ∀ w, R0 w0 w → ∀ a : Act, given w (gs []) a0 a rd (∀ K : Act → World → Prop, (∀ w', R0 w w' → K (a.put dst c) w') → wpList P #[⟨dst, op, ty, pos, #[], none⟩] (Exit.then K Q) [⟨dst, op, ty, pos, #[], none⟩] a w))
    (hn : RelyD P R0 R dd E Q w0 a0 dsts (k + 1) (fun tl => gs (.const c :: tl)) os rds) : RelyD P R0 R dd E Q w0 a0 dsts k gs (⟨dst, op, ty, pos, after, none⟩ :: os) (rd :: rds) := by
  unfold RelyD
  rw [if_pos (.inr he), if_neg hk]
  exact ⟨.const c, stable_const R c, fun w hw a => given_mono (fun hK K hn => hK K fun w' hR => hn c w' hR rfl) _ (h w hw a), hn⟩
theorem relyD_rel_e (hk : k ≠ dd) (he : E.testBit k = true) (G : Value → World → Prop) (hst : ∀ v w w', G v w → R w w' → G v w') (h : ∀ w, R0 w0 w → ∀ a : Act, given w (gs []) a0 a rd (∀ K : Act → World → Prop, (∀ v w', R0 w w' → G v w' → K (a.put dst v) w') → wpList P #[⟨dst, op, ty, pos, #[], none⟩] (Exit.then K Q) [⟨dst, op, ty, pos, #[], none⟩] a w))
    (hn : RelyD P R0 R dd E Q w0 a0 dsts (k + 1) (fun tl => gs (.rel G :: tl)) os rds) : RelyD P R0 R dd E Q w0 a0 dsts k gs (⟨dst, op, ty, pos, after, none⟩ :: os) (rd :: rds) := by
  unfold RelyD
  rw [if_pos (.inr he), if_neg hk]
  exact ⟨.rel G, hst, h, hn⟩
theorem relyD_const_in_e (hk : k ≠ dd) (he : E.testBit k = true) {j : Nat} {b : Bool} (c : Value) (hg : (gs []).getD j (.const undef) = .const (.bool b)) (h : ∀ w, R0 w0 w → ∀ a : Act, given w (gs []) a0 a rd (∀ K : Act → World → Prop, (∀ w', R0 w w' → K (a.put dst c) w') → wpList P #[⟨dst, op, ty, pos, #[], none⟩] (Exit.then K Q) [⟨dst, op, ty, pos, #[], none⟩] a w))
    (hn : RelyD P R0 R dd E Q w0 a0 dsts (k + 1) (fun tl => gs (.const c :: tl)) os rds) : RelyD P R0 R dd E Q w0 a0 dsts k gs (⟨dst, op, ty, pos, after, some (j, b)⟩ :: os) (rd :: rds) := by
  unfold RelyD
  rw [if_pos (.inr he), if_neg hk]
  refine ⟨.const c, stable_const R c, fun w hw a => given_mono (fun hK => ?_) _ (h w hw a), hn⟩
  unfold OpGoal
  simp only [hg, beq_self_eq_true, if_true]
  exact fun K hn => hK K fun w' hR => hn c w' hR rfl
theorem relyD_rel_in_e (hk : k ≠ dd) (he : E.testBit k = true) {j : Nat} {b : Bool} (G : Value → World → Prop) (hst : ∀ v w w', G v w → R w w' → G v w') (hg : (gs []).getD j (.const undef) = .const (.bool b)) (h : ∀ w, R0 w0 w → ∀ a : Act, given w (gs []) a0 a rd (∀ K : Act → World → Prop, (∀ v w', R0 w w' → G v w' → K (a.put dst v) w') → wpList P #[⟨dst, op, ty, pos, #[], none⟩] (Exit.then K Q) [⟨dst, op, ty, pos, #[], none⟩] a w))
    (hn : RelyD P R0 R dd E Q w0 a0 dsts (k + 1) (fun tl => gs (.rel G :: tl)) os rds) : RelyD P R0 R dd E Q w0 a0 dsts k gs (⟨dst, op, ty, pos, after, some (j, b)⟩ :: os) (rd :: rds) := by
  unfold RelyD
  rw [if_pos (.inr he), if_neg hk]
  refine ⟨.rel G, hst, fun w hw a => given_mono (fun hK => ?_) _ (h w hw a), hn⟩
  unfold OpGoal
  simp only [hg, beq_self_eq_true, if_true]
  exact hK
theorem relyD_out_e (hk : k ≠ dd) (he : E.testBit k = true) {j : Nat} {b : Bool} (hg : (gs []).getD j (.const undef) = .const (.bool (!b))) (hn : RelyD P R0 R dd E Q w0 a0 dsts (k + 1) (fun tl => gs (.const undef :: tl)) os rds) :
    RelyD P R0 R dd E Q w0 a0 dsts k gs (⟨dst, op, ty, pos, after, some (j, b)⟩ :: os) ([] :: rds) := by
  unfold RelyD
  rw [if_pos (.inr he), if_neg hk]
  refine ⟨.const undef, stable_const R _, fun w hw a => ?_, hn⟩
  show OpGoal P R0 Q (gs []) _ _ w a
  unfold OpGoal
  simp only [hg]
  have : ((!b) == b) = false := by cases b <;> rfl
  rw [this]
  exact rfl
/-- The guard leaves it out. -/
theorem relyD_out (hk : k ≠ dd) (he : E.testBit k = false) {j : Nat} {b : Bool} (hg : (gs []).getD j (.const undef) = .const (.bool (!b))) (hn : RelyD P R0 R dd E Q w0 a0 dsts (k + 1) (fun tl => gs (.const undef :: tl)) os rds) :
    RelyD P R0 R dd E Q w0 a0 dsts k gs (⟨dst, op, ty, pos, after, some (j, b)⟩ :: os) ([] :: rds) := by
  unfold RelyD
  rw [if_neg (fun x => x.elim hk (by rw [he]; decide)), if_neg hk]
  refine ⟨.const undef, stable_const R _, fun w hw a => ?_, hn⟩
  show OpGoal P R0 Q (gs []) _ _ w a
  unfold OpGoal
  simp only [hg]
  have : ((!b) == b) = false := by cases b <;> rfl
  rw [this]
  exact rfl
end

/-- One block may be written, and what lies in it then is F; memory grows. -/
structure RB (b : Nat) (F : Option Obj → Prop) (w w' : World) : Prop where
  os : w'.os = w.os
  tape : w'.tape = w.tape
  output : w'.output = w.output
  size : w.heap.size ≤ w'.heap.size
  block : ∀ k, k < w.heap.size → k ≠ b → w'.heap[k]? = w.heap[k]?
  the : b < w.heap.size → w'.heap[b]? = w.heap[b]? ∨ F w'.heap[b]?
theorem RB.refl (b : Nat) (F : Option Obj → Prop) (w : World) : RB b F w w := ⟨rfl, rfl, rfl, Nat.le_refl _, fun _ _ _ => rfl, fun _ => .inl rfl⟩
theorem RB.trans (b : Nat) (F : Option Obj → Prop) (x y z : World) (h : RB b F x y) (k : RB b F y z) : RB b F x z :=
  ⟨k.os.trans h.os, k.tape.trans h.tape, k.output.trans h.output, Nat.le_trans h.size k.size, fun j hj hne => (k.block j (Nat.lt_of_lt_of_le hj h.size) hne).trans (h.block j hj hne), fun hb => by
    rcases k.the (Nat.lt_of_lt_of_le hb h.size) with e | e
    · rcases h.the hb with e' | e'
      · exact .inl (e.trans e')
      · exact .inr (by rw [e]; exact e')
    · exact .inr e⟩
theorem RB.ext {b : Nat} {F : Option Obj → Prop} (w w' : World) (h : Ext w w') : RB b F w w' := ⟨h.os, h.tape, h.output, h.size, fun k hk _ => h.block k hk, fun hb => .inl (h.block b hb)⟩
theorem RB.undrew {b : Nat} {F : Option Obj → Prop} {w w' : World} (h : RB b F w.drew w') : RB b F w w' := ⟨h.os, h.tape, h.output, h.size, h.block, h.the⟩
theorem RB.keep {b : Nat} {F : Option Obj → Prop} {w w' : World} (h : RB b F w w') : Own.Keep (fun k => k = b) w w' := ⟨h.os, h.tape, h.output, h.size, fun k hk hn => h.block k hk hn⟩
/-- Written or not: where F held, it holds. -/
theorem RB.stays {b : Nat} {F : Option Obj → Prop} {w w' : World} (h : RB b F w w') (hb : b < w.heap.size) (hF : F w.heap[b]?) : F w'.heap[b]? := by
  rcases h.the hb with e | e
  · rw [e]; exact hF
  · exact e
theorem RB.cell {b : Nat} {F : Option Obj → Prop} {w w' : World} (h : RB b F w w') {p : Addr} {v : Value} (hc : w.cell? p = some v) (hp : p.block ≠ b) : w'.cell? p = some v := h.keep.cell hc hp
end Go.Proofs.Ythemincohmgihaa.Rely
