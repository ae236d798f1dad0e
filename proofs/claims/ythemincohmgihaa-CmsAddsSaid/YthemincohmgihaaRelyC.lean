/- A region that draws, cut in parts: each operation from the c-th on waits for all before it. In each part ONE operation may write (as in RelyD). It speaks of no program. -/
import Derived.Test.YthemincohmgihaaRelyD
namespace Go.Proofs.Ythemincohmgihaa.Rely

def rdOkC (c : Nat) (ds : List (Option Tmp)) (ms : List Nat) (i : Nat) : List (Tmp × Option Nat) → Bool
  | [] => true
  | (n, none) :: r => (List.range ds.length).all (fun j => decide (j < c) || !(ds.getD j none == some n) || j == i || (ms.getD j 0).testBit i) && rdOkC c ds ms i r
  | (n, some j) :: r => (ds.getD j none == some n) && (ms.getD i 0).testBit j && rdOkC c ds ms i r
def rdsOkC (c : Nat) (ds : List (Option Tmp)) (ms : List Nat) : Nat → List Oper → List (List (Tmp × Option Nat)) → Bool
  | _, [], _ => true
  | i, o :: os, rd :: rds => rdOkC c ds ms i rd && (match o.guard with | none => true | some (j, _) => (ds.getD j none).isSome && (ms.getD i 0).testBit j) && rdsOkC c ds ms (i + 1) os rds
  | _, _ :: _, [] => false
theorem rdOkC_none {c : Nat} {ds : List (Option Tmp)} {ms : List Nat} {i n : Nat} : ∀ {rd : List (Tmp × Option Nat)}, rdOkC c ds ms i rd = true → (n, none) ∈ rd → ∀ j, j < ds.length → ds.getD j none = some n → j < c ∨ j = i ∨ (ms.getD j 0).testBit i = true
  | [], _, h => by simp at h
  | (m, none) :: r, hk, h => by
    simp only [rdOkC, Bool.and_eq_true, List.all_eq_true, List.mem_range] at hk
    rcases List.mem_cons.1 h with h | h
    · obtain rfl : n = m := by simpa using congrArg Prod.fst h
      intro j hj hjn
      have := hk.1 j hj
      simp only [Bool.or_eq_true, Bool.not_eq_true', beq_eq_false_iff_ne, ne_eq, decide_eq_true_eq, beq_iff_eq] at this
      rcases this with ((h1 | h1) | h1) | h1
      · exact .inl h1
      · exact absurd hjn h1
      · exact .inr (.inl h1)
      · exact .inr (.inr h1)
    · exact rdOkC_none hk.2 h
  | (m, some k) :: r, hk, h => by
    simp only [rdOkC, Bool.and_eq_true] at hk
    rcases List.mem_cons.1 h with h | h
    · simp at h
    · exact rdOkC_none hk.2 h
theorem rdOkC_some {c : Nat} {ds : List (Option Tmp)} {ms : List Nat} {i n k : Nat} : ∀ {rd : List (Tmp × Option Nat)}, rdOkC c ds ms i rd = true → (n, some k) ∈ rd → ds.getD k none = some n ∧ (ms.getD i 0).testBit k = true
  | [], _, h => by simp at h
  | (m, none) :: r, hk, h => by
    simp only [rdOkC, Bool.and_eq_true] at hk
    rcases List.mem_cons.1 h with h | h
    · simp at h
    · exact rdOkC_some hk.2 h
  | (m, some j) :: r, hk, h => by
    simp only [rdOkC, Bool.and_eq_true, beq_iff_eq] at hk
    rcases List.mem_cons.1 h with h | h
    · injection h with h1 h2
      injection h2 with h2
      subst h1 h2
      exact hk.1
    · exact rdOkC_some hk.2 h
theorem rdsOkC_at {c : Nat} {ds : List (Option Tmp)} {ms : List Nat} : ∀ {os : List Oper} {rds : List (List (Tmp × Option Nat))} {k : Nat}, rdsOkC c ds ms k os rds = true → ∀ i o, os[i]? = some o →
    rdOkC c ds ms (k + i) (rds.getD i []) = true ∧ ∀ j b, o.guard = some (j, b) → (ds.getD j none).isSome = true ∧ (ms.getD (k + i) 0).testBit j = true
  | [], _, _, _, i, o, ho => by simp at ho
  | o' :: os, [], k, hk, i, o, ho => by simp [rdsOkC] at hk
  | o' :: os, rd :: rds, k, hk, i, o, ho => by
    simp only [rdsOkC, Bool.and_eq_true] at hk
    cases i with
    | zero =>
      obtain rfl : o' = o := by simpa using ho
      refine ⟨hk.1.1, fun j b hg => ?_⟩
      have := hk.1.2
      rw [hg] at this
      simpa using this
    | succ i =>
      have := rdsOkC_at hk.2 i o (by simpa using ho)
      rw [show k + (i + 1) = k + 1 + i by omega]
      simpa using this
/-- From the e-th on each waits for all before the e-th. -/
def waitsB (ms : List Nat) (n e : Nat) : Bool := (List.range n).all (fun j => decide (j < e) || (List.range e).all (fun i => (ms.getD j 0).testBit i))
theorem waits_at {ms : List Nat} {n e : Nat} (h : waitsB ms n e = true) {i j : Nat} (hj : j < n) (hje : e ≤ j) (hi : i < e) : (ms.getD j 0).testBit i = true := by
  simp only [waitsB, List.all_eq_true, List.mem_range, Bool.or_eq_true, decide_eq_true_eq] at h
  exact (h j hj).elim (fun x => absurd x (by omega)) (fun x => x i hi)

section
variable {P : Program} {ops : Array Oper} {Q : Exit → Act → World → Prop} {R0 R : World → World → Prop} {dd E : Nat}
theorem wpAny_win {w0 : World} {a0 : Act} {l : List Oper} {Gs : List Spec} {rds : List (List (Tmp × Option Nat))} (c e : Nat) (hce : c ≤ e) (hel : e ≤ l.length) (hrefl : ∀ w, R w w) (htr : ∀ a b c, R a b → R b c → R a c) (hsub : ∀ a b, R0 a b → R a b) (hrefl0 : ∀ w, R0 w w) (htr0 : ∀ a b c, R0 a b → R0 b c → R0 a c) (hst : ∀ j, Stable R (Gs.getD j (.const undef)))
    (hback : backB 0 l = true) (hd : distinct (l.map (·.dst))) (hb : ∀ d, some d ∈ l.map (·.dst) → d < a0.tmps.size) (hrd : rdsOkC c (l.map (·.dst)) (masksFrom [] l) c ((l.drop c).take (e - c)) rds = true) (hw : waitsB (masksFrom [] l) l.length e = true) (hpc : ∀ j n, j < c → (l.map (·.dst)).getD j none = some n → Gs.getD j (.const undef) = .const (a0.tmps.getD n undef))
    (hE : (masksFrom [] l).getD dd 0 = E) (hop : ∀ i o, c ≤ i → i < e → l[i]? = some o → ∀ w, (if i = dd ∨ E.testBit i = true then R0 else R) w0 w → ∃ gs : List Spec, (∀ j, j < i → gs.getD j (.const undef) = Gs.getD j (.const undef)) ∧ ∀ a : Act, given w gs a0 a (rds.getD (i - c) []) (OpGoal P (if i = dd then R else R0) Q gs o (Gs.getD i (.const undef)) w a))
    (hfin : ∀ (fuel : Nat) (listed : Array Bool) (a : Act) (w : World), l.length - e ≤ fuel → listed.size = l.length → (∀ j, j < e → listed.getD j false = true) → (∀ j, e ≤ j → listed.getD j false = false) → Closed l.toArray listed → Inv R w0 a0 l Gs listed a w → wpAny P .any l.toArray Q fuel listed a w) :
    ∀ (fuel : Nat) (rem : List Nat) (listed : Array Bool) (a : Act) (w : World), l.length - e + rem.length ≤ fuel → listed.size = l.length → (∀ j, j < e → (listed.getD j false = false ↔ j ∈ rem)) → (∀ j ∈ rem, c ≤ j ∧ j < e) → (∀ j, e ≤ j → listed.getD j false = false) → rem.Nodup →
      Closed l.toArray listed → Inv R w0 a0 l Gs listed a w → (listed.getD dd false = false → R0 w0 w) → wpAny P .any l.toArray Q fuel listed a w := by
  have some_ready : ∀ (listed : Array Bool) (rem : List Nat), listed.size = l.length → (∀ j, j < e → (listed.getD j false = false ↔ j ∈ rem)) → (∀ j ∈ rem, c ≤ j ∧ j < e) → Region.ready .any l.toArray listed = [] → ∀ j, j ∉ rem := by
    intro listed rem hsz hrem hlt hr j
    induction j using Nat.strongRecOn with
    | _ j ih =>
      intro hj
      have hje := (hlt j hj).2
      have hjl : j < l.length := by omega
      have ho : l.toArray[j]? = some l[j] := by simp [hjl]
      have : j ∈ Region.ready .any l.toArray listed := by
        refine mem_ready.2 ⟨?_, _, ho, fun e he hbd => ?_⟩
        · have h2 := (hrem j hje).2 hj
          have : j < listed.size := by omega
          simpa [this] using h2
        · have h1 := back_of l 0 hback j l[j] (List.getElem?_eq_getElem hjl) e he hbd
          have h2 := ih e.on (by omega)
          cases h3 : listed.getD e.on false with
          | true => rfl
          | false => exact absurd ((hrem e.on (by omega)).1 h3) h2
      rw [hr] at this
      cases this
  intro fuel
  induction fuel with
  | zero =>
    intro rem listed a w hlen2 hsz hrem hlt hout hnd hc hI hpre
    obtain rfl : rem = [] := List.eq_nil_of_length_eq_zero (by omega)
    exact hfin 0 listed a w (by omega) hsz (fun j hj => by
      cases h : listed.getD j false with
      | true => rfl
      | false => exact absurd ((hrem j hj).1 h) (by simp)) hout hc hI
  | succ fuel ih =>
    intro rem listed a w hlen2 hsz hrem hlt hout hnd hc hI hpre
    by_cases hrn : rem = []
    · subst hrn
      exact hfin (fuel + 1) listed a w (by simpa using hlen2) hsz (fun j hj => by
        cases h : listed.getD j false with
        | true => rfl
        | false => exact absurd ((hrem j hj).1 h) (by simp)) hout hc hI
    obtain ⟨r0, hr0⟩ := List.exists_mem_of_ne_nil rem hrn
    refine ⟨fun hr => absurd hr0 (some_ready listed rem hsz hrem hlt hr r0), fun i hi => ?_⟩
    · obtain ⟨h1, oi, hoi, _⟩ := mem_ready.1 hi
      have hi' : i < l.length := by
        have := (Array.getElem?_eq_some_iff.1 hoi).1
        simpa using this
      have hol : l[i]? = some oi := by simpa using hoi
      have his : i < listed.size := by omega
      have h2 : listed.getD i false = false := by simpa [his] using h1
      have good : ∀ listed' : Array Bool, Closed l.toArray listed' → ∀ i j, ((masksFrom [] l).getD i 0).testBit j = true → listed'.getD i false = true → listed'.getD j false = true := by
        intro listed' hc'
        refine masks_good listed' l [] 0 rfl (fun i o ho e he hbd hl => ?_) (fun i j hb => by simp at hb)
        exact hc' i o (by simpa using ho) (by simpa using hl) e he hbd
      have back : ∀ i j, ((masksFrom [] l).getD i 0).testBit j = true → j < i := masks_back l [] 0 rfl hback (fun i j hb => by simp at hb)
      have need : ∀ j, ((masksFrom [] l).getD i 0).testBit j = true → listed.getD j false = true := by
        intro j hbit
        have h3 := good _ (hc.set hi) i j hbit (by simp [his])
        have h4 := back i j hbit
        rwa [getD_set_ne false (by omega)] at h3
      have hie : i < e := by
        rcases Nat.lt_or_ge i e with x | x
        · exact x
        · have h7 := need r0 (waits_at hw hi' x (hlt r0 hr0).2)
          have h8 := (hrem r0 (hlt r0 hr0).2).2 hr0
          rw [h7] at h8
          cases h8
      have hmem := (hrem i hie).1 h2
      have hci := (hlt i hmem).1
      have later : ∀ j, ((masksFrom [] l).getD j 0).testBit i = true → listed.getD j false = false := by
        intro j hbit
        cases h6 : listed.getD j false with
        | false => rfl
        | true =>
          have := good _ hc j i hbit h6
          rw [this] at h2
          cases h2
      have hrel : (if i = dd ∨ E.testBit i = true then R0 else R) w0 w := by
        by_cases hid : i = dd
        · rw [if_pos (.inl hid)]; exact hpre (by rw [← hid]; exact h2)
        · by_cases hiE : E.testBit i = true
          · rw [if_pos (.inr hiE)]; exact hpre (later dd (by rw [hE]; exact hiE))
          · rw [if_neg (fun x => x.elim hid hiE)]; exact hI.rel
      obtain ⟨gs, hge, hview⟩ := hop i oi hci hie hol w hrel
      have hrd2 := rdsOkC_at hrd (i - c) oi (by rw [List.getElem?_take, if_pos (by omega), List.getElem?_drop, show c + (i - c) = i by omega]; exact hol)
      rw [show c + (i - c) = i by omega] at hrd2
      have hdst : ∀ j x, (l.map (·.dst)).getD j none = some x → ∃ o, l[j]? = some o ∧ o.dst = some x := by
        intro j x hx
        rw [List.getD_eq_getElem?_getD, List.getElem?_map] at hx
        cases ho : l[j]? with
        | none => rw [ho] at hx; simp at hx
        | some o => rw [ho] at hx; exact ⟨o, rfl, by simpa using hx⟩
      have hval : ∀ j x, (l.map (·.dst)).getD j none = some x → ((masksFrom [] l).getD i 0).testBit j = true → Sat (gs.getD j (.const undef)) (a.tmps.getD x undef) w := by
        intro j x hx hbit
        obtain ⟨o, ho, hox⟩ := hdst j x hx
        have h3 := hI.done j o ho (need j hbit)
        rw [hox] at h3
        rw [hge j (back i j hbit)]
        exact h3
      have hgoal : OpGoal P (if i = dd then R else R0) Q gs oi (Gs.getD i (.const undef)) w a := by
        refine given_elim _ (fun n hn => ?_) (fun n j hn => ?_) (hview a)
        · by_cases hex : ∃ j, j < c ∧ (l.map (·.dst)).getD j none = some n
          · obtain ⟨j, hjc, hjn⟩ := hex
            obtain ⟨o, ho, hox⟩ := hdst j n hjn
            have h3 := hI.done j o ho (by
              cases h6 : listed.getD j false with
              | true => rfl
              | false => exact absurd (hlt j ((hrem j (by omega)).1 h6)).1 (by omega))
            rw [hox, hpc j n hjc hjn] at h3
            exact h3
          · refine hI.rest n (fun j o ho hdo => ?_)
            have hjl : j < l.length := (List.getElem?_eq_some_iff.1 ho).1
            have hjn : (l.map (·.dst)).getD j none = some n := by simp [List.getD_eq_getElem?_getD, ho, hdo]
            rcases rdOkC_none hrd2.1 hn j (by simpa using hjl) hjn with h3 | rfl | h3
            · exact absurd ⟨j, h3, hjn⟩ hex
            · exact h2
            · exact later j h3
        · have h3 := rdOkC_some hrd2.1 hn
          exact hval j n h3.1 h3.2
      have next : ∀ v w', (if i = dd then R else R0) w w' → Sat (Gs.getD i (.const undef)) v w' → wpAny P .any l.toArray Q fuel (listed.setIfInBounds i true) (a.put oi.dst v) w' := by
        intro v w' hR1 hv
        have hR : R w w' := by
          by_cases hid : i = dd
          · rw [if_pos hid] at hR1; exact hR1
          · rw [if_neg hid] at hR1; exact hsub _ _ hR1
        refine ih (rem.erase i) _ _ _ ?_ (by simpa using hsz) ?_ (fun j hj => hlt j (List.mem_of_mem_erase hj)) (fun j hj => by rw [getD_set_ne false (by omega)]; exact hout j hj) (hnd.erase i) (hc.set hi) (hI.put htr hst hd hb hol his hR hv) (fun hnl => ?_)
        · rw [List.length_erase_of_mem hmem]; have := List.length_pos_of_mem hmem; omega
        · intro j hj
          by_cases hij : i = j
          · subst hij
            simp only [List.Nodup.mem_erase_iff hnd, ne_eq, not_true_eq_false, false_and, iff_false]
            simp [his]
          · rw [getD_set_ne false hij, hrem j hj, List.Nodup.mem_erase_iff hnd]
            exact ⟨fun h => ⟨fun e => hij e.symm, h⟩, fun h => h.2⟩
        · have hid : ¬ i = dd := by
            rintro rfl
            simp [his] at hnl
          rw [getD_set_ne false hid] at hnl
          rw [if_neg hid] at hR1
          exact htr0 _ _ _ (hpre hnl) hR1
      unfold wpOp
      rw [hoi]
      simp only
      unfold OpGoal at hgoal
      cases hg : oi.guard with
      | none =>
        rw [hg] at hgoal
        rw [if_pos (show Region.wanted oi (yielded l.toArray a.tmps) = true by simp [Region.wanted, hg])]
        exact wpList_single (hgoal _ next)
      | some p =>
        obtain ⟨j, b⟩ := p
        rw [hg] at hgoal
        simp only at hgoal
        obtain ⟨hsm, hbit⟩ := hrd2.2 j b hg
        obtain ⟨x, hx⟩ := Option.isSome_iff_exists.1 hsm
        have hv := hval j x hx hbit
        obtain ⟨o, ho, hox⟩ := hdst j x hx
        have hxs : x < a.tmps.size := by
          rw [hI.size]
          exact hb x (by rw [← hox]; exact List.mem_map_of_mem (List.mem_of_getElem? ho))
        cases hs : gs.getD j (.const undef) with
        | rel G => rw [hs] at hgoal; exact hgoal.elim
        | const c =>
          rw [hs] at hgoal hv
          have hv : a.tmps.getD x undef = c := hv
          cases c with
          | bool c =>
            have hy : yielded l.toArray a.tmps j = some c := by
              unfold yielded
              have e1 : ((l.toArray[j]?).bind (·.dst)) = some x := by simp [ho, hox]
              rw [e1]
              simp only [Option.bind_some]
              have e2 : a.tmps[x]? = some (.bool c) := by
                rw [Array.getElem?_eq_getElem hxs]
                simp only [Array.getD_eq_getD_getElem?, Array.getElem?_eq_getElem hxs, Option.getD_some] at hv
                rw [hv]
              rw [e2]
            have hw : Region.wanted oi (yielded l.toArray a.tmps) = (c == b) := by
              unfold Region.wanted
              rw [hg]
              simp only [hy]
              cases c <;> cases b <;> rfl
            rw [hw]
            simp only at hgoal
            cases hcb : (c == b) with
            | true =>
              rw [hcb] at hgoal
              simp only [if_true] at hgoal ⊢
              exact wpList_single (hgoal _ next)
            | false =>
              rw [hcb] at hgoal
              simp only [Bool.false_eq_true, if_false] at hgoal ⊢
              exact next undef w (by by_cases hid : i = dd; (rw [if_pos hid]; exact hrefl w); (rw [if_neg hid]; exact hrefl0 w)) hgoal
          | _ => exact hgoal.elim


theorem then_then (K N : Act → World → Prop) (Q : Exit → Act → World → Prop) : Exit.then K (Exit.then N Q) = Exit.then K Q := by
  funext e a w
  cases e <;> rfl
theorem OpGoal.unthen {R : World → World → Prop} {N : Act → World → Prop} {gs : List Spec} {o : Oper} {s : Spec} {w : World} {a : Act} (h : OpGoal P R (Exit.then N Q) gs o s w a) : OpGoal P R Q gs o s w a := by
  unfold OpGoal Run at *
  simp only [then_then] at h
  exact h

/-- All before the c-th have run. -/
def Next (P : Program) (Q : Exit → Act → World → Prop) (ol : List Oper) (c : Nat) (a : Act) (w : World) : Prop :=
  ∀ (fuel : Nat) (listed : Array Bool), ol.length - c ≤ fuel → listed.size = ol.length → (∀ j, j < c → listed.getD j false = true) → (∀ j, c ≤ j → listed.getD j false = false) → Closed ol.toArray listed → wpAny P .any ol.toArray Q fuel listed a w

/-- The values of those that have run. -/
def had (dsts : List (Option Tmp)) (a : Act) : List Spec := dsts.map fun d => match d with | some d => .const (a.tmps.getD d undef) | none => .const undef

theorem next_win {ol : List Oper} {a : Act} {w : World} (c e : Nat) (R0 R : World → World → Prop) (dd E : Nat) (hsub : ∀ a b, R0 a b → R a b) (hrefl0 : ∀ w, R0 w w) (htr0 : ∀ a b c, R0 a b → R0 b c → R0 a c) (hrefl : ∀ w, R w w) (htr : ∀ a b c, R a b → R b c → R a c)
    (rds : List (List (Tmp × Option Nat))) (dsts : List (Option Tmp)) (hds : List.replicate c none ++ ((ol.drop c).take (e - c)).map (·.dst) = dsts) (hce : (decide (c ≤ e) && decide (e ≤ ol.length)) = true)
    (hok : (relyOk ol a.tmps.size && rdsOkC c (ol.map (·.dst)) (masksFrom [] ol) c ((ol.drop c).take (e - c)) rds && waitsB (masksFrom [] ol) ol.length e) = true)
    (hE : (masksFrom [] ol).getD dd 0 = E) (h : ∀ Nx : Act → World → Prop, (∀ a w, Next P Q ol e a w → Nx a w) → RelyD P R0 R dd E (Exit.then Nx Q) w a dsts c (fun tl => had ((ol.take c).map (·.dst)) a ++ tl) ((ol.drop c).take (e - c)) rds) : Next P Q ol c a w := by
  have h := h (Next P Q ol e) fun _ _ x => x
  subst hds
  simp only [relyOk, Bool.and_eq_true, decide_eq_true_eq] at hok hce
  obtain ⟨⟨⟨⟨h1, h2⟩, h3⟩, h4⟩, h5⟩ := hok
  obtain ⟨hc1, hc2⟩ := hce
  have hl : (had ((ol.take c).map (·.dst)) a).length = c := by simp [had]; omega
  obtain ⟨Gs, g1, g2, g3, g4, g5⟩ := relyD_of _ _ _ _ _ (fun tl => had ((ol.take c).map (·.dst)) a ++ tl) (had ((ol.take c).map (·.dst)) a) (fun tl => rfl) (by rw [hl]; exact h)
  rw [hl] at g1 g2 g3 g4
  have hb : ∀ d, some d ∈ ol.map (·.dst) → d < a.tmps.size := by
    intro d hd
    obtain ⟨o, ho, hod⟩ := List.mem_map.1 hd
    have := List.all_eq_true.1 h3 o ho
    rw [hod] at this
    simpa using this
  have hpc : ∀ j n, j < c → (ol.map (·.dst)).getD j none = some n → Gs.getD j (.const undef) = .const (a.tmps.getD n undef) := by
    intro j n hj hn
    rw [g2 j hj]
    rw [List.getD_eq_getElem?_getD, List.getElem?_map] at hn
    have hjl : j < ol.length := by omega
    rw [List.getElem?_eq_getElem hjl] at hn
    simp only [Option.map_some, Option.getD_some] at hn
    simp [had, List.getD_eq_getElem?_getD, List.getElem?_take, hj, List.getElem?_eq_getElem hjl, hn]
  intro fuel listed hf hsz hin hout hcl
  refine wpAny_win (dd := dd) (E := E) (R0 := R0) (R := R) (w0 := w) (a0 := a) (Gs := Gs) (rds := rds) c e hc1 hc2 hrefl htr hsub hrefl0 htr0 (fun j => ?_) h1 (distinct_of _ h2) hb h4 h5 hpc hE ?_ ?_ fuel ((List.range (e - c)).map (· + c)) listed a w ?_ hsz ?_ ?_ (fun j hj => hout j (by omega)) ?_ hcl ?_ (fun _ => hrefl0 _)
  · by_cases hj : j < c
    · rw [g2 j hj]
      have hjl : j < ol.length := by omega
      simp only [had, List.getD_eq_getElem?_getD, List.getElem?_map, List.getElem?_take, hj, if_true, List.getElem?_eq_getElem hjl, Option.map_some, Option.getD_some]
      cases ol[j].dst <;> exact stable_const R _
    · exact g3 j (by omega)
  · intro i o hci hie ho w' hR
    have := g4 (i - c) o (by rw [List.getElem?_take, if_pos (by omega), List.getElem?_drop, show c + (i - c) = i by omega]; exact ho) w' (by rw [show c + (i - c) = i by omega]; exact hR)
    rw [show c + (i - c) = i by omega] at this
    have hgl : i < Gs.length := by rw [g1]; simp; omega
    refine ⟨Gs.take i, fun j hj => ?_, fun a' => given_mono (fun x => OpGoal.unthen x) _ (this a')⟩
    simp [List.getD_eq_getElem?_getD, List.getElem?_take, hj]
  · intro fuel' listed' a' w' hf' hsz' hin' hout' hcl' hI
    have hlen : Gs.length = (List.replicate c (none : Option Tmp) ++ ((ol.drop c).take (e - c)).map (fun o : Oper => o.dst)).length := by rw [g1]; simp
    have hdd := distinct_of _ h2
    have hend := ends_elim w' a' (fun a => (Exit.then (Next P Q ol e) Q) .normal a w') _ Gs a hlen ?_ ?_ ?_ ?_ hI.size hI.defers (g5 w' hI.rel)
    · exact hend fuel' listed' hf' hsz' hin' hout' hcl'
    · -- distinct
      have hsub1 : ∀ (ds es : List (Option Tmp)), distinct ds → List.Sublist es ds → distinct es := by
        intro ds es hd hs
        induction hs with
        | slnil => trivial
        | cons x hs ih => exact ih hd.2
        | cons_cons x hs ih => exact ⟨fun y hy hm => hd.1 y hy (hs.subset hm), ih hd.2⟩
      have hrep : ∀ (n : Nat) (es : List (Option Tmp)), distinct es → distinct (List.replicate n none ++ es) := by
        intro n es hd
        induction n with
        | zero => simpa using hd
        | succ n ih => exact ⟨fun x hx => by simp at hx, ih⟩
      exact hrep _ _ (hsub1 _ _ hdd (((List.take_sublist _ _).trans (List.drop_sublist _ _)).map (fun o : Oper => o.dst)))
    · intro d hd
      rw [hI.size]
      rcases List.mem_append.1 hd with hd | hd
      · simp at hd
      · exact hb d ((((List.take_sublist (e - c) (ol.drop c)).trans (List.drop_sublist c ol)).map (fun o : Oper => o.dst)).subset hd)
    · intro j d hj
      by_cases hjc : j < c
      · rw [List.getElem?_append_left (by simpa using hjc)] at hj
        obtain rfl : d = none := by simpa [hjc] using hj.symm
        have hjl : j < ol.length := by omega
        rw [g2 j hjc]
        simp only [had, List.getD_eq_getElem?_getD, List.getElem?_map, List.getElem?_take, hjc, if_true, List.getElem?_eq_getElem hjl, Option.map_some, Option.getD_some]
        cases ol[j].dst <;> exact ⟨_, rfl⟩
      · rw [List.getElem?_append_right (by simpa using Nat.le_of_not_lt hjc), List.length_replicate, List.getElem?_map, List.getElem?_take, List.getElem?_drop] at hj
        by_cases hje : j - c < e - c
        · rw [if_pos hje, show c + (j - c) = j by omega] at hj
          have hjl : j < ol.length := by omega
          rw [List.getElem?_eq_getElem hjl] at hj
          obtain rfl : ol[j].dst = d := by simpa using hj
          exact hI.done j _ (List.getElem?_eq_getElem hjl) (hin' j (by omega))
        · rw [if_neg hje] at hj
          simp at hj
    · intro d hd
      by_cases hex : ∃ j, j < c ∧ (ol.map (·.dst)).getD j none = some d
      · obtain ⟨j, hjc, hjn⟩ := hex
        have hjl : j < ol.length := by omega
        have h6 := hI.done j _ (List.getElem?_eq_getElem hjl) (hin' j (by omega))
        have hox : ol[j].dst = some d := by
          rw [List.getD_eq_getElem?_getD, List.getElem?_map, List.getElem?_eq_getElem hjl] at hjn
          simpa using hjn
        rw [hox, hpc j d hjc hjn] at h6
        exact h6
      · refine hI.rest d (fun j o ho hdo => ?_)
        have hjl : j < ol.length := (List.getElem?_eq_some_iff.1 ho).1
        by_cases hjc : j < c
        · exact absurd ⟨j, hjc, by simp [List.getD_eq_getElem?_getD, ho, hdo]⟩ hex
        · by_cases hje : j < e
          · refine absurd (List.mem_append_right _ (List.mem_map.2 ⟨o, ?_, hdo⟩)) hd
            have : ((ol.drop c).take (e - c))[j - c]? = some o := by rw [List.getElem?_take, if_pos (by omega), List.getElem?_drop, show c + (j - c) = j by omega]; exact ho
            exact List.mem_of_getElem? this
          · exact hout' j (by omega)
  · have : ol.length - c ≤ fuel := hf
    simp; omega
  · intro j hj
    by_cases hjc : j < c
    · rw [hin j hjc]
      simp; omega
    · rw [hout j (by omega)]
      simp only [List.mem_map, List.mem_range, true_iff]
      exact ⟨j - c, by omega, by omega⟩
  · intro j hj
    simp only [List.mem_map, List.mem_range] at hj
    obtain ⟨x, hx, rfl⟩ := hj
    omega
  · exact (List.nodup_range).map _ (fun a b hab h => hab (by omega))
  · refine ⟨hrefl _, rfl, rfl, fun j o ho hl2 => ?_, fun _ _ => rfl⟩
    have hjl : j < ol.length := (List.getElem?_eq_some_iff.1 ho).1
    have hjc : j < c := by
      rcases Nat.lt_or_ge j c with x | x
      · exact x
      · rw [hout j x] at hl2; cases hl2
    cases hdst : o.dst with
    | none =>
      refine ⟨undef, ?_⟩
      rw [g2 j hjc]
      have : ol[j] = o := by rw [List.getElem?_eq_getElem hjl] at ho; exact Option.some.inj ho
      simp only [had, List.getD_eq_getElem?_getD, List.getElem?_map, List.getElem?_take, hjc, if_true, ho, Option.map_some, Option.getD_some, hdst]
      rfl
    | some n =>
      show Sat _ (a.tmps.getD n undef) w
      rw [hpc j n hjc (by simp [List.getD_eq_getElem?_getD, ho, hdst])]
      rfl

/-- All have run. -/
theorem next_done {ol : List Oper} {a : Act} {w : World} {n : Nat} (hn : ol.length = n) (h : Q .normal a w) : Next P Q ol n a w := by
  subst hn
  intro fuel listed hf hsz hin hout hcl
  have hr : Region.ready .any ol.toArray listed = [] := by
    rw [List.eq_nil_iff_forall_not_mem]
    intro i hi
    obtain ⟨h1, oi, hoi, _⟩ := mem_ready.1 hi
    have hi' : i < ol.length := by
      have := (Array.getElem?_eq_some_iff.1 hoi).1
      simpa using this
    have h2 : listed.getD i false = false := by
      have : i < listed.size := by omega
      simpa [this] using h1
    rw [hin i hi'] at h2
    cases h2
  cases fuel with
  | zero => exact ⟨hr, h⟩
  | succ fuel => exact ⟨fun _ => h, fun i hi => by rw [hr] at hi; cases hi⟩

/-- **A region that draws, in parts.** -/
theorem wp_region_next {id : Nat} {a : Act} {w : World} {ol : List Oper} (hm : P.follows .mixedOrders = true) (h : Next P Q ol 0 a w.drew) : (Code.region id ol.toArray true).wp P Q a w := by
  refine wp_region_any hm (h _ _ (by simp) (by simp) (fun j hj => absurd hj (by omega)) (fun j _ => ?_) ?_)
  · by_cases hj : j < ol.length
    · simp [hj]
    · simp [hj]
  · intro j oj hj hl
    have hj' : j < ol.length := by
      have := (Array.getElem?_eq_some_iff.1 hj).1
      simpa using this
    simp [hj'] at hl
end
end Go.Proofs.Ythemincohmgihaa.Rely
