/- A region that draws its order, by what each operation promises: R is what any of them may do to the world; what one promises holds whatever the others do meanwhile. It speaks of no program. -/
import Derived.WalkKit
import Derived.OrdersHeld
import Derived.Deep.RegionHeld
import Derived.KernelRfl
import Derived.Test.YthemincohmgihaaOwnB
namespace Go.Proofs.Ythemincohmgihaa.Rely

theorem getD_app_l {α : Type} {l l' : List α} {i : Nat} {d : α} (h : i < l.length) : (l ++ l').getD i d = l.getD i d := by
  simp [List.getD_eq_getElem?_getD, List.getElem?_append_left h]
theorem getD_app_r {α : Type} {l l' : List α} {i : Nat} {d : α} (h : l.length ≤ i) : (l ++ l').getD i d = l'.getD (i - l.length) d := by
  simp [List.getD_eq_getElem?_getD, List.getElem?_append_right h]
theorem getD_out {α : Type} {l : List α} {i : Nat} {d : α} (h : l.length ≤ i) : l.getD i d = d := by
  simp [List.getD_eq_getElem?_getD, List.getElem?_eq_none h]

/-- What an operation's value is: a value, or one of which something holds. -/
inductive Spec where
  | const (c : Value)
  | rel (G : Value → World → Prop)
def Sat : Spec → Value → World → Prop
  | .const c, v, _ => v = c
  | .rel G, v, w => G v w
def Stable (R : World → World → Prop) (s : Spec) : Prop := ∀ v w w', Sat s v w → R w w' → Sat s v w'
theorem stable_const (R : World → World → Prop) (c : Value) : Stable R (.const c) := fun _ _ _ h _ => h

def bare (o : Oper) : Oper := { o with guard := none, after := #[] }
/-- What an operation reads: a slot as it was, or as another operation left it. -/
def given (w : World) (gs : List Spec) (a0 a : Act) : List (Tmp × Option Nat) → Prop → Prop
  | [], C => C
  | (n, none) :: rest, C => a.tmps.getD n undef = a0.tmps.getD n undef → given w gs a0 a rest C
  | (n, some j) :: rest, C => (match gs.getD j (.const undef) with
    | .const c => a.tmps.getD n undef = c → given w gs a0 a rest C
    | .rel G => ∀ v, a.tmps.getD n undef = v → G v w → given w gs a0 a rest C)
/-- All that was promised, at the end. -/
def ends (w : World) (C : Act → Prop) : List (Option Tmp) → List Spec → Act → Prop
  | d :: ds, .const c :: gs, a => ends w C ds gs (a.put d c)
  | d :: ds, .rel G :: gs, a => ∀ v, G v w → ends w C ds gs (a.put d v)
  | _, _, a => C a

def hasVal (d : Option Tmp) (a : Act) (p : Value → Prop) : Prop := match d with
  | some d => p (a.tmps.getD d undef)
  | none => ∃ v, p v

theorem getD_put_same {a : Act} {d : Tmp} {v : Value} (h : d < a.tmps.size) : (a.put (some d) v).tmps.getD d undef = v := by
  simp [Act.put, h]
theorem getD_put_ne {a : Act} {d e : Tmp} {v : Value} (h : d ≠ e) : (a.put (some d) v).tmps.getD e undef = a.tmps.getD e undef := by
  simp only [Act.put, Array.getD_eq_getD_getElem?]
  rw [Array.getElem?_setIfInBounds_ne h]
theorem size_put {a : Act} {d : Option Tmp} {v : Value} : (a.put d v).tmps.size = a.tmps.size := by
  cases d <;> simp [Act.put]
theorem defers_put {a : Act} {d : Option Tmp} {v : Value} : (a.put d v).defers = a.defers := by
  cases d <;> simp [Act.put]

theorem act_ext {a b : Act} (h1 : ∀ d, a.tmps.getD d undef = b.tmps.getD d undef) (h2 : a.tmps.size = b.tmps.size) (h3 : a.defers = b.defers) : a = b := by
  obtain ⟨at_, ad⟩ := a
  obtain ⟨bt, bd⟩ := b
  simp only at h1 h2 h3
  subst h3
  congr 1
  apply Array.ext h2
  intro i h4 h5
  have := h1 i
  simpa [Array.getD_eq_getD_getElem?, h4, h5] using this

def distinct : List (Option Tmp) → Prop
  | [] => True
  | d :: ds => (∀ x, d = some x → some x ∉ ds) ∧ distinct ds

theorem ends_elim (w : World) (a : Act) (C : Act → Prop) : ∀ (ds : List (Option Tmp)) (gs : List Spec) (b : Act), gs.length = ds.length → distinct ds → (∀ d, some d ∈ ds → d < a.tmps.size) →
    (∀ j d, ds[j]? = some d → hasVal d a (fun v => Sat (gs.getD j (.const undef)) v w)) →
    (∀ d, some d ∉ ds → a.tmps.getD d undef = b.tmps.getD d undef) → a.tmps.size = b.tmps.size → a.defers = b.defers → ends w C ds gs b → C a := by
  intro ds
  induction ds with
  | nil =>
    intro gs b hk hd hb hj hn hs hf h
    have : a = b := act_ext (fun d => hn d (by simp)) hs hf
    subst this
    cases gs <;> simpa [ends] using h
  | cons d ds ih =>
    intro gs b hk hd hb hj hn hs hf h
    cases gs with
    | nil => simp at hk
    | cons s gs =>
      have hk' : gs.length = ds.length := by simpa using hk
      have hb' : ∀ d, some d ∈ ds → d < a.tmps.size := fun x hx => hb x (by simp [hx])
      have put : ∀ v : Value, (∀ x, d = some x → v = a.tmps.getD x undef) → ends w C ds gs (b.put d v) → C a := by
        intro v hv hw
        refine ih gs (b.put d v) hk' hd.2 hb' (fun j d2 hj2 => by simpa using hj (j + 1) d2 (by simpa using hj2)) (fun x hx => ?_) (by rw [size_put]; exact hs) (by rw [defers_put]; exact hf) hw
        cases d with
        | none => exact hn x (by simp [hx])
        | some y =>
          by_cases hyx : y = x
          · subst hyx
            rw [getD_put_same (by rw [← hs]; exact hb y (by simp)), hv y rfl]
          · rw [getD_put_ne hyx]
            refine hn x (fun q => ?_)
            rcases List.mem_cons.1 q with q | q
            · exact hyx (by injection q with q; exact q.symm)
            · exact hx q
      have h0 := hj 0 d (by simp)
      simp only [List.getD_cons_zero] at h0
      cases s with
      | const c =>
        simp only [ends] at h
        cases d with
        | none => exact put _ (fun x q => by cases q) h
        | some y => exact put _ (fun x q => by injection q with q; rw [← q]; exact (show a.tmps.getD y undef = c from h0).symm) h
      | rel G =>
        simp only [ends] at h
        cases d with
        | none =>
          obtain ⟨v, h1⟩ := h0
          exact put _ (fun x q => by cases q) (h v h1)
        | some y => exact put (a.tmps.getD y undef) (fun x q => by injection q with q; rw [q]) (h _ h0)

theorem given_elim {w : World} {gs : List Spec} {a0 a : Act} {C : Prop} : ∀ rd : List (Tmp × Option Nat),
    (∀ n, (n, none) ∈ rd → a.tmps.getD n undef = a0.tmps.getD n undef) → (∀ n j, (n, some j) ∈ rd → Sat (gs.getD j (.const undef)) (a.tmps.getD n undef) w) → given w gs a0 a rd C → C
  | [], _, _, h => h
  | (n, none) :: rest, h1, h2, h => by
    simp only [given] at h
    exact given_elim rest (fun n hn => h1 n (by simp [hn])) (fun n j hn => h2 n j (by simp [hn])) (h (h1 n (by simp)))
  | (n, some j) :: rest, h1, h2, h => by
    have hs := h2 n j (by simp)
    simp only [given] at h
    generalize gs.getD j (.const undef) = s at hs h
    cases s with
    | const c => exact given_elim rest (fun n hn => h1 n (by simp [hn])) (fun n j hn => h2 n j (by simp [hn])) (h hs)
    | rel G => exact given_elim rest (fun n hn => h1 n (by simp [hn])) (fun n j hn => h2 n j (by simp [hn])) (h _ rfl hs)

section
variable (P : Program) (R : World → World → Prop) (Q : Exit → Act → World → Prop) (w0 : World) (a0 : Act) (dsts : List (Option Tmp))

/-- What is to be shown of an operation that is wanted. -/
def Run (o : Oper) (s : Spec) (w : World) (a : Act) : Prop :=
  ∀ K : Act → World → Prop, (∀ v w', R w w' → Sat s v w' → K (a.put o.dst v) w') → wpList P #[bare o] (Exit.then K Q) [bare o] a w
def OpGoal (gs : List Spec) (o : Oper) (s : Spec) (w : World) (a : Act) : Prop :=
  match o.guard with
  | none => Run P R Q o s w a
  | some (j, b) => match gs.getD j (.const undef) with
    | .const (.bool c) => if c == b then Run P R Q o s w a else Sat s undef w
    | _ => False

/-- Operation by operation; gs: what those before have promised. -/
def Rely : (List Spec → List Spec) → List Oper → List (List (Tmp × Option Nat)) → Prop
  | gs, [], _ => ∀ w, R w0 w → ends w (fun a => Q .normal a w) dsts (gs []) a0
  | gs, o :: os, rd :: rds => ∃ s, Stable R s ∧ (∀ w, R w0 w → ∀ a : Act, given w (gs []) a0 a rd (OpGoal P R Q (gs []) o s w a)) ∧ Rely (fun tl => gs (s :: tl)) os rds
  | _, _ :: _, [] => False
end

def maskOf (ms : List Nat) (o : Oper) : Nat := o.after.foldl (fun m e => if Region.binds .any e then m ||| ((1 <<< e.on) ||| ms.getD e.on 0) else m) 0
def masksFrom : List Nat → List Oper → List Nat
  | ms, [] => ms
  | ms, o :: rest => masksFrom (ms ++ [maskOf ms o]) rest
def rdOk (ds : List (Option Tmp)) (ms : List Nat) (i : Nat) : List (Tmp × Option Nat) → Bool
  | [] => true
  | (n, none) :: r => (List.range ds.length).all (fun j => !(ds.getD j none == some n) || j == i || (ms.getD j 0).testBit i) && rdOk ds ms i r
  | (n, some j) :: r => (ds.getD j none == some n) && (ms.getD i 0).testBit j && rdOk ds ms i r
def rdsOk (ds : List (Option Tmp)) (ms : List Nat) : Nat → List Oper → List (List (Tmp × Option Nat)) → Bool
  | _, [], _ => true
  | i, o :: os, rd :: rds => rdOk ds ms i rd && (match o.guard with | none => true | some (j, _) => (ds.getD j none).isSome && (ms.getD i 0).testBit j) && rdsOk ds ms (i + 1) os rds
  | _, _ :: _, [] => false
/-- Each looks back only; no two write one slot; all slots are there; no select. -/
def backB : Nat → List Oper → Bool
  | _, [] => true
  | i, o :: rest => o.after.all (fun e => !(Region.binds .any e) || decide (e.on < i)) && backB (i + 1) rest
def distinctB : List (Option Tmp) → Bool
  | [] => true
  | d :: ds => (match d with | none => true | some x => !ds.contains (some x)) && distinctB ds
def relyOk (l : List Oper) (n : Nat) : Bool := backB 0 l && distinctB (l.map (·.dst)) && l.all (fun o => match o.dst with | none => true | some d => decide (d < n))

theorem distinct_of : ∀ (ds : List (Option Tmp)), distinctB ds = true → distinct ds
  | [], _ => trivial
  | d :: ds, h => by
    simp only [distinctB, Bool.and_eq_true] at h
    refine ⟨?_, distinct_of ds h.2⟩
    rintro x rfl
    simpa using h.1
theorem back_of : ∀ (l : List Oper) (k : Nat), backB k l = true → ∀ i o, l[i]? = some o → ∀ e ∈ o.after, Region.binds .any e = true → e.on < k + i
  | [], _, _, i, o, ho, _, _, _ => by simp at ho
  | o' :: l, k, h, i, o, ho, e, he, hbd => by
    simp only [backB, Bool.and_eq_true] at h
    cases i with
    | zero =>
      obtain rfl : o' = o := by simpa using ho
      have := Array.all_eq_true_iff_forall_mem.1 h.1 e he
      rw [hbd] at this
      simpa using this
    | succ i =>
      have := back_of l (k + 1) h.2 i o (by simpa using ho) e he hbd
      omega

theorem maskOf_bit {ms : List Nat} {o : Oper} {j : Nat} (h : (maskOf ms o).testBit j = true) : ∃ e ∈ o.after, Region.binds .any e = true ∧ (j = e.on ∨ (ms.getD e.on 0).testBit j = true) := by
  unfold maskOf at h
  rw [← Array.foldl_toList] at h
  have key : ∀ (es : List Edge) (m : Nat), (es.foldl (fun m e => if Region.binds .any e then m ||| ((1 <<< e.on) ||| ms.getD e.on 0) else m) m).testBit j = true →
      m.testBit j = true ∨ ∃ e ∈ es, Region.binds .any e = true ∧ (j = e.on ∨ (ms.getD e.on 0).testBit j = true) := by
    intro es
    induction es with
    | nil => intro m hm; exact .inl hm
    | cons e es ih =>
      intro m hm
      simp only [List.foldl_cons] at hm
      rcases ih _ hm with h1 | ⟨e2, h2, h3⟩
      · by_cases hb : Region.binds .any e = true
        · rw [if_pos hb, Nat.testBit_or, Nat.testBit_or, Bool.or_eq_true, Bool.or_eq_true] at h1
          rcases h1 with h1 | h1 | h1
          · exact .inl h1
          · refine .inr ⟨e, by simp, hb, .inl ?_⟩
            rw [Nat.one_shiftLeft, Nat.testBit_two_pow] at h1
            simpa [eq_comm] using h1
          · exact .inr ⟨e, by simp, hb, .inr h1⟩
        · rw [if_neg hb] at h1
          exact .inl h1
      · exact .inr ⟨e2, by simp [h2], h3⟩
  rcases key _ _ h with h1 | ⟨e, h1, h2⟩
  · simp at h1
  · exact ⟨e, by simpa using h1, h2⟩

section
variable {P : Program} {ops : Array Oper} {Q : Exit → Act → World → Prop} {R : World → World → Prop}

def Closed (ops : Array Oper) (listed : Array Bool) : Prop :=
  ∀ j oj, ops[j]? = some oj → listed.getD j false = true → ∀ e ∈ oj.after, Region.binds .any e = true → listed.getD e.on false = true
theorem Closed.set {listed : Array Bool} {i : Nat} (h : Closed ops listed) (hi : i ∈ Region.ready .any ops listed) : Closed ops (listed.setIfInBounds i true) := by
  obtain ⟨_, oi, hoi, hall⟩ := mem_ready.1 hi
  intro j oj hj hl e he hb
  by_cases hij : i = j
  · subst hij
    obtain rfl : oj = oi := Option.some.inj (hj.symm.trans hoi)
    exact getD_set_true (hall e he hb)
  · rw [getD_set_ne false hij] at hl
    exact getD_set_true (h j oj hj hl e he hb)

/-- What one waits for, by its mask, has come up when it has. -/
theorem masks_good (listed : Array Bool) : ∀ (rest : List Oper) (ms : List Nat) (k : Nat), ms.length = k →
    (∀ i o, rest[i]? = some o → ∀ e ∈ o.after, Region.binds .any e = true → listed.getD (k + i) false = true → listed.getD e.on false = true) →
    (∀ i j, (ms.getD i 0).testBit j = true → listed.getD i false = true → listed.getD j false = true) →
    ∀ i j, ((masksFrom ms rest).getD i 0).testBit j = true → listed.getD i false = true → listed.getD j false = true
  | [], _, _, _, _, h => h
  | o :: rest, ms, k, hk, hr, h => by
    refine masks_good listed rest (ms ++ [maskOf ms o]) (k + 1) (by simp [hk]) (fun i o' ho' e he hb hl => ?_) (fun i j hb hl => ?_)
    · exact hr (i + 1) o' (by simpa using ho') e he hb (by rw [← hl]; congr 1; omega)
    · by_cases hi : i < ms.length
      · rw [getD_app_l hi] at hb
        exact h i j hb hl
      · by_cases hi2 : i = ms.length
        · subst hi2
          rw [getD_app_r (Nat.le_refl _)] at hb
          simp only [Nat.sub_self, List.getD_cons_zero] at hb
          obtain ⟨e, he, hbd, hor⟩ := maskOf_bit hb
          have hle := hr 0 o (by simp) e he hbd (by rw [Nat.add_zero, ← hk]; exact hl)
          rcases hor with rfl | hor
          · exact hle
          · exact h _ _ hor hle
        · rw [getD_out (by simp; omega)] at hb
          simp at hb

theorem masks_back : ∀ (rest : List Oper) (ms : List Nat) (k : Nat), ms.length = k → backB k rest = true → (∀ i j, (ms.getD i 0).testBit j = true → j < i) → ∀ i j, ((masksFrom ms rest).getD i 0).testBit j = true → j < i
  | [], _, _, _, _, h => h
  | o :: rest, ms, k, hk, hr, h => by
    simp only [backB, Bool.and_eq_true] at hr
    refine masks_back rest (ms ++ [maskOf ms o]) (k + 1) (by simp [hk]) hr.2 (fun i j hb => ?_)
    by_cases hi : i < ms.length
    · rw [getD_app_l hi] at hb
      exact h i j hb
    · by_cases hi2 : i = ms.length
      · subst hi2
        rw [getD_app_r (Nat.le_refl _)] at hb
        simp only [Nat.sub_self, List.getD_cons_zero] at hb
        obtain ⟨e, he, hbd, hor⟩ := maskOf_bit hb
        have hlt : e.on < k := by
          have := Array.all_eq_true_iff_forall_mem.1 hr.1 e he
          rw [hbd] at this
          simpa using this
        rcases hor with rfl | hor
        · omega
        · have := h _ _ hor
          omega
      · rw [getD_out (by simp; omega)] at hb
        simp at hb

theorem wpList_single {o : Oper} {a : Act} {w : World} {K : Act → World → Prop} (h : wpList P #[bare o] (Exit.then K Q) [bare o] a w) : o.wp P a w K Q ∨ (o.asks P a w ∧ LetsOut Q) := by
  unfold wpList at h
  rw [if_pos (show Region.wanted (bare o) _ = true by simp [bare, Region.wanted])] at h
  have hx : execOp a.eval (bare o) = execOp a.eval o := rfl
  rcases h with h | ⟨h1, h2⟩
  · refine .inl ?_
    unfold Oper.wp at h ⊢
    rw [hx] at h
    generalize (execOp a.eval o).run P w = r at *
    cases r with
    | ok n w' =>
      cases n <;> simp only [Oper.upon] at h ⊢
      case value => exact h
      case skip => exact h
      case defer => exact h
      case enter =>
        refine Calls.mono h fun e w'' he => ?_
        cases e with
        | returned v => exact he
        | panicked c => exact he
        | outgrown => obtain ⟨a2, w2, h3⟩ := he; exact ⟨a2, w2, h3⟩
      case row => exact Rows.mono h (fun _ _ he => he)
    | halt x w' => cases x <;> simp only [Oper.upon] at h ⊢ <;> exact h
  · refine .inr ⟨?_, ?_⟩
    · unfold Oper.asks at h1 ⊢
      rw [hx] at h1
      exact h1
    · obtain ⟨a2, w2, h3⟩ := h2
      exact ⟨a2, w2, h3⟩

/-- How it stands in the midst. -/
structure Inv (R : World → World → Prop) (w0 : World) (a0 : Act) (l : List Oper) (Gs : List Spec) (listed : Array Bool) (a : Act) (w : World) : Prop where
  rel : R w0 w
  defers : a.defers = a0.defers
  size : a.tmps.size = a0.tmps.size
  done : ∀ j o, l[j]? = some o → listed.getD j false = true → hasVal o.dst a (fun v => Sat (Gs.getD j (.const undef)) v w)
  rest : ∀ d, (∀ j o, l[j]? = some o → o.dst = some d → listed.getD j false = false) → a.tmps.getD d undef = a0.tmps.getD d undef

theorem distinct_at : ∀ (ds : List (Option Tmp)), distinct ds → ∀ (i j : Nat) (x : Tmp), ds[i]? = some (some x) → ds[j]? = some (some x) → i = j
  | [], _, i, j, x, h, _ => by simp at h
  | d :: ds, hd, i, j, x, hi, hj => by
    cases i with
    | zero => cases j with
      | zero => rfl
      | succ j =>
        obtain rfl : d = some x := by simpa using hi
        exact absurd (List.mem_of_getElem? (by simpa using hj)) (hd.1 x rfl)
    | succ i => cases j with
      | zero =>
        obtain rfl : d = some x := by simpa using hj
        exact absurd (List.mem_of_getElem? (by simpa using hi)) (hd.1 x rfl)
      | succ j => rw [distinct_at ds hd.2 i j x (by simpa using hi) (by simpa using hj)]

theorem Inv.put {w0 : World} {a0 : Act} {l : List Oper} {Gs : List Spec} {listed : Array Bool} {a : Act} {w w' : World} (h : Inv R w0 a0 l Gs listed a w) (htr : ∀ a b c, R a b → R b c → R a c)
    (hst : ∀ j, Stable R (Gs.getD j (.const undef))) (hd : distinct (l.map (·.dst))) (hb : ∀ d, some d ∈ l.map (·.dst) → d < a0.tmps.size) {i : Nat} {o : Oper} (hi : l[i]? = some o) (hsz : i < listed.size) {v : Value}
    (hR : R w w') (hv : Sat (Gs.getD i (.const undef)) v w') : Inv R w0 a0 l Gs (listed.setIfInBounds i true) (a.put o.dst v) w' := by
  refine ⟨htr _ _ _ h.rel hR, by rw [defers_put]; exact h.defers, by rw [size_put]; exact h.size, fun j oj hj hl => ?_, fun d hdn => ?_⟩
  · by_cases hij : i = j
    · subst hij
      obtain rfl : o = oj := Option.some.inj (hi.symm.trans hj)
      cases hdst : o.dst with
      | none => exact ⟨v, hv⟩
      | some x =>
        show Sat _ ((a.put (some x) v).tmps.getD x undef) w'
        rw [getD_put_same]
        · exact hv
        · rw [h.size]
          exact hb x (by rw [← hdst]; exact List.mem_map_of_mem (List.mem_of_getElem? hi))
    · rw [getD_set_ne false hij] at hl
      have h1 := h.done j oj hj hl
      cases hdst : oj.dst with
      | none =>
        rw [hdst] at h1
        obtain ⟨v1, h1⟩ := h1
        exact ⟨v1, hst j _ _ _ h1 hR⟩
      | some x =>
        rw [hdst] at h1
        have h1 : Sat (Gs.getD j (.const undef)) (a.tmps.getD x undef) w := h1
        show Sat _ ((a.put o.dst v).tmps.getD x undef) w'
        have : (a.put o.dst v).tmps.getD x undef = a.tmps.getD x undef := by
          cases hdo : o.dst with
          | none => rfl
          | some y =>
            refine getD_put_ne ?_
            rintro rfl
            exact hij (distinct_at _ hd i j y (by simp [hi, hdo]) (by simp [hj, hdst]))
        rw [this]
        exact hst j _ _ _ h1 hR
  · have h1 : a.tmps.getD d undef = a0.tmps.getD d undef := by
      refine h.rest d (fun j oj hj hjd => ?_)
      have h2 := hdn j oj hj hjd
      by_cases hij : i = j
      · subst hij
        simp [hsz] at h2
      · rwa [getD_set_ne false hij] at h2
    rw [← h1]
    cases hdo : o.dst with
    | none => rfl
    | some y =>
      refine getD_put_ne ?_
      rintro rfl
      have := hdn i o hi hdo
      simp [hsz] at this

theorem rdOk_none {ds : List (Option Tmp)} {ms : List Nat} {i n : Nat} : ∀ {rd : List (Tmp × Option Nat)}, rdOk ds ms i rd = true → (n, none) ∈ rd → ∀ j, j < ds.length → ds.getD j none = some n → j = i ∨ (ms.getD j 0).testBit i = true
  | [], _, hm => by cases hm
  | (m, none) :: r, h, hm => by
    simp only [rdOk, Bool.and_eq_true] at h
    intro j hj hd
    rcases List.mem_cons.1 hm with hm | hm
    · injection hm with hm _
      subst hm
      have := List.all_eq_true.1 h.1 j (List.mem_range.2 hj)
      rw [hd] at this
      simpa using this
    · exact rdOk_none h.2 hm j hj hd
  | (m, some k) :: r, h, hm => by
    simp only [rdOk, Bool.and_eq_true] at h
    rcases List.mem_cons.1 hm with hm | hm
    · cases hm
    · exact rdOk_none h.2 hm
theorem rdOk_some {ds : List (Option Tmp)} {ms : List Nat} {i n k : Nat} : ∀ {rd : List (Tmp × Option Nat)}, rdOk ds ms i rd = true → (n, some k) ∈ rd → ds.getD k none = some n ∧ (ms.getD i 0).testBit k = true
  | [], _, hm => by cases hm
  | (m, none) :: r, h, hm => by
    simp only [rdOk, Bool.and_eq_true] at h
    rcases List.mem_cons.1 hm with hm | hm
    · cases hm
    · exact rdOk_some h.2 hm
  | (m, some k') :: r, h, hm => by
    simp only [rdOk, Bool.and_eq_true, beq_iff_eq] at h
    rcases List.mem_cons.1 hm with hm | hm
    · injection hm with h1 h2
      injection h2 with h2
      subst h1 h2
      exact h.1
    · exact rdOk_some h.2 hm
theorem rdsOk_at {ds : List (Option Tmp)} {ms : List Nat} : ∀ {os : List Oper} {rds : List (List (Tmp × Option Nat))} {k : Nat}, rdsOk ds ms k os rds = true → ∀ i o, os[i]? = some o →
    rdOk ds ms (k + i) (rds.getD i []) = true ∧ (∀ j b, o.guard = some (j, b) → (ds.getD j none).isSome = true ∧ (ms.getD (k + i) 0).testBit j = true)
  | [], _, _, _, i, o, ho => by simp at ho
  | o' :: os, [], _, h, _, _, _ => by simp [rdsOk] at h
  | o' :: os, rd :: rds, k, h, i, o, ho => by
    simp only [rdsOk, Bool.and_eq_true] at h
    cases i with
    | zero =>
      obtain rfl : o' = o := by simpa using ho
      refine ⟨by simpa using h.1.1, fun j b hg => ?_⟩
      have h2 := h.1.2
      rw [hg] at h2
      simp only [Bool.and_eq_true] at h2
      exact h2
    | succ i =>
      have := rdsOk_at h.2 i o (by simpa using ho)
      rw [show k + 1 + i = k + (i + 1) by omega] at this
      simpa using this

theorem wpAny_rely {w0 : World} {a0 : Act} {l : List Oper} {Gs : List Spec} {rds : List (List (Tmp × Option Nat))} (hlen : Gs.length = l.length) (hrefl : ∀ w, R w w) (htr : ∀ a b c, R a b → R b c → R a c) (hst : ∀ j, Stable R (Gs.getD j (.const undef)))
    (hback : backB 0 l = true) (hd : distinct (l.map (·.dst))) (hb : ∀ d, some d ∈ l.map (·.dst) → d < a0.tmps.size) (hrd : rdsOk (l.map (·.dst)) (masksFrom [] l) 0 l rds = true)
    (hop : ∀ i o, l[i]? = some o → ∀ w, R w0 w → ∃ gs : List Spec, (∀ j, j < i → gs.getD j (.const undef) = Gs.getD j (.const undef)) ∧ ∀ a : Act, given w gs a0 a (rds.getD i []) (OpGoal P R Q gs o (Gs.getD i (.const undef)) w a))
    (hend : ∀ w, R w0 w → ends w (fun a => Q .normal a w) (l.map (·.dst)) Gs a0) :
    ∀ (fuel : Nat) (rem : List Nat) (listed : Array Bool) (a : Act) (w : World), rem.length ≤ fuel → listed.size = l.length → (∀ j, j < l.length → (listed.getD j false = false ↔ j ∈ rem)) → (∀ j ∈ rem, j < l.length) → rem.Nodup →
      Closed l.toArray listed → Inv R w0 a0 l Gs listed a w → wpAny P .any l.toArray Q fuel listed a w := by
  have fin : ∀ (listed : Array Bool) (a : Act) (w : World), (∀ j, j < l.length → listed.getD j false = true) → Inv R w0 a0 l Gs listed a w → Q .normal a w := by
    intro listed a w hall hI
    refine ends_elim w a (fun a => Q .normal a w) _ Gs a0 (by simpa using hlen) hd (fun d q => by rw [hI.size]; exact hb d q) (fun j d hj => ?_) (fun d q => ?_) hI.size hI.defers (hend w hI.rel)
    · have hj' : j < l.length := by
        have := (List.getElem?_eq_some_iff.1 hj).1
        simpa using this
      have ho : l[j]? = some l[j] := List.getElem?_eq_getElem hj'
      have hdj : d = l[j].dst := by simpa [ho] using hj.symm
      rw [hdj]
      exact hI.done j _ ho (hall j hj')
    · refine hI.rest d (fun j o ho hdo => ?_)
      exact absurd (by rw [← hdo]; exact List.mem_map_of_mem (List.mem_of_getElem? ho)) q
  have some_ready : ∀ (listed : Array Bool) (rem : List Nat), listed.size = l.length → (∀ j, j < l.length → (listed.getD j false = false ↔ j ∈ rem)) → (∀ j ∈ rem, j < l.length) → Region.ready .any l.toArray listed = [] → ∀ j, j ∉ rem := by
    intro listed rem hsz hrem hlt hr j
    induction j using Nat.strongRecOn with
    | _ j ih =>
      intro hj
      have hjl := hlt j hj
      have ho : l.toArray[j]? = some l[j] := by simp [hjl]
      have : j ∈ Region.ready .any l.toArray listed := by
        refine mem_ready.2 ⟨?_, _, ho, fun e he hbd => ?_⟩
        · have h2 := (hrem j hjl).2 hj
          have : j < listed.size := by omega
          simpa [this] using h2
        · have h1 := back_of l 0 hback j l[j] (List.getElem?_eq_getElem hjl) e he hbd
          have h2 := ih e.on (by omega)
          cases h3 : listed.getD e.on false with
          | true => rfl
          | false => exact absurd ((hrem e.on (by omega)).1 h3) h2
      rw [hr] at this
      cases this
  intro fuel
  induction fuel with
  | zero =>
    intro rem listed a w hlen2 hsz hrem hlt hnd hc hI
    obtain rfl : rem = [] := List.eq_nil_of_length_eq_zero (by omega)
    refine ⟨?_, fin listed a w (fun j hj => ?_) hI⟩
    · rw [List.eq_nil_iff_forall_not_mem]
      intro i hi
      obtain ⟨h1, oi, hoi, _⟩ := mem_ready.1 hi
      have hi' : i < l.length := by
        have := (Array.getElem?_eq_some_iff.1 hoi).1
        simpa using this
      have h2 : listed.getD i false = false := by
        have : i < listed.size := by omega
        simpa [this] using h1
      have := (hrem i hi').1 h2
      cases this
    · cases h : listed.getD j false with
      | true => rfl
      | false => exact absurd ((hrem j hj).1 h) (by simp)
  | succ fuel ih =>
    intro rem listed a w hlen2 hsz hrem hlt hnd hc hI
    refine ⟨fun hr => ?_, fun i hi => ?_⟩
    · refine fin listed a w (fun j hj => ?_) hI
      cases h : listed.getD j false with
      | true => rfl
      | false => exact absurd ((hrem j hj).1 h) (some_ready listed rem hsz hrem hlt hr j)
    · obtain ⟨h1, oi, hoi, _⟩ := mem_ready.1 hi
      have hi' : i < l.length := by
        have := (Array.getElem?_eq_some_iff.1 hoi).1
        simpa using this
      have hol : l[i]? = some oi := by simpa using hoi
      have his : i < listed.size := by omega
      have h2 : listed.getD i false = false := by simpa [his] using h1
      have hmem := (hrem i hi').1 h2
      obtain ⟨gs, hge, hview⟩ := hop i oi hol w hI.rel
      have good : ∀ listed' : Array Bool, Closed l.toArray listed' → ∀ i j, ((masksFrom [] l).getD i 0).testBit j = true → listed'.getD i false = true → listed'.getD j false = true := by
        intro listed' hc'
        refine masks_good listed' l [] 0 rfl (fun i o ho e he hbd hl => ?_) (fun i j hb => by simp at hb)
        exact hc' i o (by simpa using ho) (by simpa using hl) e he hbd
      have back : ∀ i j, ((masksFrom [] l).getD i 0).testBit j = true → j < i := masks_back l [] 0 rfl hback (fun i j hb => by simp at hb)
      have need : ∀ j, ((masksFrom [] l).getD i 0).testBit j = true → listed.getD j false = true := by
        intro j hbit
        have h3 := good _ (hc.set hi) i j hbit (by simp [his])
        have h4 := back i j hbit
        rwa [getD_set_ne false (by omega)] at h3
      have later : ∀ j, ((masksFrom [] l).getD j 0).testBit i = true → listed.getD j false = false := by
        intro j hbit
        cases h6 : listed.getD j false with
        | false => rfl
        | true =>
          have := good _ hc j i hbit h6
          rw [this] at h2
          cases h2
      have hrd2 := rdsOk_at hrd i oi hol
      rw [Nat.zero_add] at hrd2
      have hdst : ∀ j x, (l.map (·.dst)).getD j none = some x → ∃ o, l[j]? = some o ∧ o.dst = some x := by
        intro j x hx
        rw [List.getD_eq_getElem?_getD, List.getElem?_map] at hx
        cases ho : l[j]? with
        | none => rw [ho] at hx; simp at hx
        | some o => rw [ho] at hx; exact ⟨o, rfl, by simpa using hx⟩
      have hval : ∀ j x, (l.map (·.dst)).getD j none = some x → ((masksFrom [] l).getD i 0).testBit j = true → Sat (gs.getD j (.const undef)) (a.tmps.getD x undef) w := by
        intro j x hx hbit
        obtain ⟨o, ho, hox⟩ := hdst j x hx
        have h3 := hI.done j o ho (need j hbit)
        rw [hox] at h3
        rw [hge j (back i j hbit)]
        exact h3
      have hgoal : OpGoal P R Q gs oi (Gs.getD i (.const undef)) w a := by
        refine given_elim _ (fun n hn => ?_) (fun n j hn => ?_) (hview a)
        · refine hI.rest n (fun j o ho hdo => ?_)
          have hjl : j < l.length := (List.getElem?_eq_some_iff.1 ho).1
          rcases rdOk_none hrd2.1 hn j (by simpa using hjl) (by simp [List.getD_eq_getElem?_getD, ho, hdo]) with rfl | h3
          · exact h2
          · exact later j h3
        · have h3 := rdOk_some hrd2.1 hn
          exact hval j n h3.1 h3.2
      have next : ∀ v w', R w w' → Sat (Gs.getD i (.const undef)) v w' → wpAny P .any l.toArray Q fuel (listed.setIfInBounds i true) (a.put oi.dst v) w' := by
        intro v w' hR hv
        refine ih (rem.erase i) _ _ _ ?_ (by simpa using hsz) ?_ (fun j hj => hlt j (List.mem_of_mem_erase hj)) (hnd.erase i) (hc.set hi) (hI.put htr hst hd hb hol his hR hv)
        · rw [List.length_erase_of_mem hmem]; omega
        · intro j hj
          by_cases hij : i = j
          · subst hij
            simp only [List.Nodup.mem_erase_iff hnd, ne_eq, not_true_eq_false, false_and, iff_false]
            simp [his]
          · rw [getD_set_ne false hij, hrem j hj, List.Nodup.mem_erase_iff hnd]
            exact ⟨fun h => ⟨fun e => hij e.symm, h⟩, fun h => h.2⟩
      unfold wpOp
      rw [hoi]
      simp only
      unfold OpGoal at hgoal
      cases hg : oi.guard with
      | none =>
        rw [hg] at hgoal
        rw [if_pos (show Region.wanted oi (yielded l.toArray a.tmps) = true by simp [Region.wanted, hg])]
        exact wpList_single (hgoal _ next)
      | some p =>
        obtain ⟨j, b⟩ := p
        rw [hg] at hgoal
        simp only at hgoal
        obtain ⟨hsm, hbit⟩ := hrd2.2 j b hg
        obtain ⟨x, hx⟩ := Option.isSome_iff_exists.1 hsm
        have hv := hval j x hx hbit
        obtain ⟨o, ho, hox⟩ := hdst j x hx
        have hxs : x < a.tmps.size := by
          rw [hI.size]
          exact hb x (by rw [← hox]; exact List.mem_map_of_mem (List.mem_of_getElem? ho))
        cases hs : gs.getD j (.const undef) with
        | rel G => rw [hs] at hgoal; exact hgoal.elim
        | const c =>
          rw [hs] at hgoal hv
          have hv : a.tmps.getD x undef = c := hv
          cases c with
          | bool c =>
            have hy : yielded l.toArray a.tmps j = some c := by
              unfold yielded
              have e1 : ((l.toArray[j]?).bind (·.dst)) = some x := by simp [ho, hox]
              rw [e1]
              simp only [Option.bind_some]
              have e2 : a.tmps[x]? = some (.bool c) := by
                rw [Array.getElem?_eq_getElem hxs]
                simp only [Array.getD_eq_getD_getElem?, Array.getElem?_eq_getElem hxs, Option.getD_some] at hv
                rw [hv]
              rw [e2]
            have hw : Region.wanted oi (yielded l.toArray a.tmps) = (c == b) := by
              unfold Region.wanted
              rw [hg]
              simp only [hy]
              cases c <;> cases b <;> rfl
            rw [hw]
            simp only at hgoal
            cases hcb : (c == b) with
            | true =>
              rw [hcb] at hgoal
              simp only [if_true] at hgoal ⊢
              exact wpList_single (hgoal _ next)
            | false =>
              rw [hcb] at hgoal
              simp only [Bool.false_eq_true, if_false] at hgoal ⊢
              exact next undef w (hrefl w) hgoal
          | _ => exact hgoal.elim

theorem rely_of : ∀ (dsts : List (Option Tmp)) (w0 : World) (a0 : Act) (os : List Oper) (rds : List (List (Tmp × Option Nat))) (gs : List Spec → List Spec) (pre : List Spec), (∀ tl, gs tl = pre ++ tl) → Rely P R Q w0 a0 dsts gs os rds →
    ∃ Gs : List Spec, Gs.length = pre.length + os.length ∧ (∀ j, j < pre.length → Gs.getD j (.const undef) = pre.getD j (.const undef)) ∧ (∀ j, pre.length ≤ j → Stable R (Gs.getD j (.const undef))) ∧
      (∀ i o, os[i]? = some o → ∀ w, R w0 w → ∀ a : Act, given w (Gs.take (pre.length + i)) a0 a (rds.getD i []) (OpGoal P R Q (Gs.take (pre.length + i)) o (Gs.getD (pre.length + i) (.const undef)) w a)) ∧
      (∀ w, R w0 w → ends w (fun a => Q .normal a w) dsts Gs a0)
  | dsts, w0, a0, [], rds, gs, pre, hg, h => by
    refine ⟨pre, by simp, fun _ _ => rfl, fun j hj => ?_, fun i o ho => by simp at ho, ?_⟩
    · rw [getD_out hj]; exact stable_const R _
    · have : gs [] = pre := by rw [hg]; simp
      unfold Rely at h
      rwa [this] at h
  | dsts, w0, a0, o :: os, [], gs, pre, hg, h => by unfold Rely at h; exact h.elim
  | dsts, w0, a0, o :: os, rd :: rds, gs, pre, hg, h => by
    unfold Rely at h
    obtain ⟨s, hs, ho, hn⟩ := h
    obtain ⟨Gs, h1, h2, h3, h4, h5⟩ := rely_of dsts w0 a0 os rds _ (pre ++ [s]) (fun tl => by rw [hg]; simp) hn
    have hlen : (pre ++ [s]).length = pre.length + 1 := by simp
    have hpre : ∀ j, j < pre.length → Gs.getD j (.const undef) = pre.getD j (.const undef) := fun j hj => by
      rw [h2 j (by omega), getD_app_l hj]
    have hat : Gs.getD pre.length (.const undef) = s := by
      rw [h2 _ (by omega), getD_app_r (Nat.le_refl _)]; simp
    refine ⟨Gs, by rw [h1, hlen]; simp; omega, hpre, fun j hj => ?_, fun i o' ho' => ?_, h5⟩
    · by_cases hj2 : j = pre.length
      · subst hj2; rw [hat]; exact hs
      · exact h3 j (by omega)
    · cases i with
      | zero =>
        obtain rfl : o = o' := by simpa using ho'
        intro w hw
        have htake : Gs.take pre.length = gs [] := by
          rw [hg, List.append_nil]
          apply List.ext_getElem
          · simp [h1]; omega
          · intro j h6 h7
            have := hpre j h7
            rw [List.getElem_take]
            simpa [List.getD_eq_getElem?_getD, h7, h1, show j < pre.length + 1 + os.length by omega] using this
        have h8 := ho w hw
        rw [Nat.add_zero, htake, hat]
        exact h8
      | succ i =>
        intro w hw
        have := h4 i o' (by simpa using ho') w hw
        rw [hlen, show pre.length + 1 + i = pre.length + (i + 1) by omega] at this
        simpa using this

/-- **A region that draws, by what each operation promises.** -/
theorem wp_region_rely {id : Nat} {a : Act} {w : World} {ol : List Oper} (hm : P.follows .mixedOrders = true) (R : World → World → Prop) (hrefl : ∀ w, R w w) (htr : ∀ a b c, R a b → R b c → R a c)
    (rds : List (List (Tmp × Option Nat))) (dsts : List (Option Tmp)) (hds : ol.map (·.dst) = dsts) (hok : (relyOk ol a.tmps.size && rdsOk dsts (masksFrom [] ol) 0 ol rds) = true)
    (h : Rely P R Q w.drew a dsts (fun tl => tl) ol rds) : (Code.region id ol.toArray true).wp P Q a w := by
  subst hds
  simp only [relyOk, Bool.and_eq_true] at hok
  obtain ⟨⟨⟨h1, h2⟩, h3⟩, h4⟩ := hok
  obtain ⟨Gs, g1, _, g3, g4, g5⟩ := rely_of _ _ _ _ _ _ [] (fun tl => by simp) h
  have hb : ∀ d, some d ∈ ol.map (·.dst) → d < a.tmps.size := by
    intro d hd
    obtain ⟨o, ho, hod⟩ := List.mem_map.1 hd
    have := List.all_eq_true.1 h3 o ho
    rw [hod] at this
    simpa using this
  refine wp_region_any hm (wpAny_rely (w0 := w.drew) (a0 := a) (Gs := Gs) (by simpa using g1) hrefl htr (fun j => g3 j (by simp)) h1 (distinct_of _ h2) hb h4 ?_ g5 _ (List.range ol.length) _ a _ (by simp) (by simp) ?_ (fun j hj => by simpa using hj) List.nodup_range ?_ ?_)
  · intro i o ho w' hR
    have hi : i < ol.length := (List.getElem?_eq_some_iff.1 ho).1
    have := g4 i o ho w' hR
    simp only [List.length_nil, Nat.zero_add] at this g1
    refine ⟨Gs.take i, fun j hj => ?_, this⟩
    simp [List.getD_eq_getElem?_getD, List.getElem?_take, hj]
  · intro j hj
    simp [hj]
  · intro j oj hj hl
    have hj' : j < ol.length := by
      have := (Array.getElem?_eq_some_iff.1 hj).1
      simpa using this
    simp [hj'] at hl
  · refine ⟨hrefl _, rfl, rfl, fun j o ho hl => ?_, fun _ _ => rfl⟩
    have hj' : j < ol.length := (List.getElem?_eq_some_iff.1 ho).1
    simp [hj'] at hl
end

/-! ### the steps -/
section
variable {P : Program} {R : World → World → Prop} {Q : Exit → Act → World → Prop} {w0 : World} {a0 : Act} {dsts : List (Option Tmp)} {gs : List Spec → List Spec} {os : List Oper} {rd : List (Tmp × Option Nat)} {rds : List (List (Tmp × Option Nat))}
variable {dst : Option Tmp} {op : Op} {ty : TypeId} {pos : String} {after : Array Edge}

theorem given_mono {w : World} {gs : List Spec} {a0 a : Act} {C C' : Prop} (hc : C → C') : ∀ rd : List (Tmp × Option Nat), given w gs a0 a rd C → given w gs a0 a rd C'
  | [], h => hc h
  | (n, none) :: rest, h => by simp only [given] at h ⊢; exact fun e => given_mono hc rest (h e)
  | (n, some j) :: rest, h => by
    simp only [given] at h ⊢
    generalize gs.getD j (.const undef) = s at h
    cases s with
    | const c => exact fun e => given_mono hc rest (h e)
    | rel G => exact fun v e g => given_mono hc rest (h v e g)

theorem rely_end (h : ∀ w, R w0 w → ends w (fun a => Q .normal a w) dsts (gs []) a0) : Rely P R Q w0 a0 dsts gs [] rds := by
  unfold Rely; exact h
/-- An operation of one value, whatever the others do. -/
theorem rely_const (c : Value) (h : ∀ w, R w0 w → ∀ a : Act, given w (gs []) a0 a rd (∀ K : Act → World → Prop, (∀ w', R w w' → K (a.put dst c) w') → wpList P #[⟨dst, op, ty, pos, #[], none⟩] (Exit.then K Q) [⟨dst, op, ty, pos, #[], none⟩] a w))
    (hn : Rely P R Q w0 a0 dsts (fun tl => gs (.const c :: tl)) os rds) : Rely P R Q w0 a0 dsts gs (⟨dst, op, ty, pos, after, none⟩ :: os) (rd :: rds) := by
  unfold Rely
  exact ⟨.const c, stable_const R c, fun w hw a => given_mono (fun hK K hn => hK K fun w' hR => hn c w' hR rfl) _ (h w hw a), hn⟩
/-- One of whose value something holds. -/
theorem rely_rel (G : Value → World → Prop) (hst : ∀ v w w', G v w → R w w' → G v w') (h : ∀ w, R w0 w → ∀ a : Act, given w (gs []) a0 a rd (∀ K : Act → World → Prop, (∀ v w', R w w' → G v w' → K (a.put dst v) w') → wpList P #[⟨dst, op, ty, pos, #[], none⟩] (Exit.then K Q) [⟨dst, op, ty, pos, #[], none⟩] a w))
    (hn : Rely P R Q w0 a0 dsts (fun tl => gs (.rel G :: tl)) os rds) : Rely P R Q w0 a0 dsts gs (⟨dst, op, ty, pos, after, none⟩ :: os) (rd :: rds) := by
  unfold Rely
  exact ⟨.rel G, hst, h, hn⟩
/-- The same, guarded; the guard lets it in. -/
theorem rely_const_in {j : Nat} {b : Bool} (c : Value) (hg : (gs []).getD j (.const undef) = .const (.bool b)) (h : ∀ w, R w0 w → ∀ a : Act, given w (gs []) a0 a rd (∀ K : Act → World → Prop, (∀ w', R w w' → K (a.put dst c) w') → wpList P #[⟨dst, op, ty, pos, #[], none⟩] (Exit.then K Q) [⟨dst, op, ty, pos, #[], none⟩] a w))
    (hn : Rely P R Q w0 a0 dsts (fun tl => gs (.const c :: tl)) os rds) : Rely P R Q w0 a0 dsts gs (⟨dst, op, ty, pos, after, some (j, b)⟩ :: os) (rd :: rds) := by
  unfold Rely
  refine ⟨.const c, stable_const R c, fun w hw a => given_mono (fun hK => ?_) _ (h w hw a), hn⟩
  unfold OpGoal
  simp only [hg, beq_self_eq_true, if_true]
  exact fun K hn => hK K fun w' hR => hn c w' hR rfl
theorem rely_rel_in {j : Nat} {b : Bool} (G : Value → World → Prop) (hst : ∀ v w w', G v w → R w w' → G v w') (hg : (gs []).getD j (.const undef) = .const (.bool b)) (h : ∀ w, R w0 w → ∀ a : Act, given w (gs []) a0 a rd (∀ K : Act → World → Prop, (∀ v w', R w w' → G v w' → K (a.put dst v) w') → wpList P #[⟨dst, op, ty, pos, #[], none⟩] (Exit.then K Q) [⟨dst, op, ty, pos, #[], none⟩] a w))
    (hn : Rely P R Q w0 a0 dsts (fun tl => gs (.rel G :: tl)) os rds) : Rely P R Q w0 a0 dsts gs (⟨dst, op, ty, pos, after, some (j, b)⟩ :: os) (rd :: rds) := by
  unfold Rely
  refine ⟨.rel G, hst, fun w hw a => given_mono (fun hK => ?_) _ (h w hw a), hn⟩
  unfold OpGoal
  simp only [hg, beq_self_eq_true, if_true]
  exact hK
/-- The guard leaves it out. -/
theorem rely_out {j : Nat} {b : Bool} (hg : (gs []).getD j (.const undef) = .const (.bool (!b))) (hn : Rely P R Q w0 a0 dsts (fun tl => gs (.const undef :: tl)) os rds) :
    Rely P R Q w0 a0 dsts gs (⟨dst, op, ty, pos, after, some (j, b)⟩ :: os) ([] :: rds) := by
  unfold Rely
  refine ⟨.const undef, stable_const R _, fun w hw a => ?_, hn⟩
  show OpGoal P R Q (gs []) _ _ w a
  unfold OpGoal
  simp only [hg]
  have : ((!b) == b) = false := by cases b <;> rfl
  rw [this]
  exact rfl
end

/-- Memory only grows. -/
def Ext (a b : World) : Prop := Go.RowKit.Below a.heap.size a b
theorem Ext.refl (a : World) : Ext a a := Go.RowKit.Below.refl _ _
theorem Ext.trans (a b c : World) (h : Ext a b) (k : Ext b c) : Ext a c := Go.RowKit.Below.trans h (Go.RowKit.Below.mono k h.size)
theorem Ext.undrew {a b : World} (h : Ext a.drew b) : Ext a b := ⟨h.os, h.tape, h.output, h.size, h.block⟩
theorem Ext.drew {a b : World} (h : Ext a b) : Ext a b.drew := ⟨h.os, h.tape, h.output, h.size, h.block⟩
theorem Ext.after {n : Nat} {w a b : World} (h : Ext a b) (k : Go.RowKit.Below n w a) (hn : n ≤ a.heap.size) : Go.RowKit.Below n w b := Go.RowKit.Below.trans k (Go.RowKit.Below.mono h hn)
theorem Ext.cell {w w' : World} {p : Addr} {v : Value} (h : Ext w w') (hc : w.cell? p = some v) : w'.cell? p = some v :=
  (Go.RowKit.Below.cell h (World.block_lt_of_cell? w p hc)).trans hc
theorem Ext.reads {w w' : World} {k : IntKind} {A : Option Addr} {xs : List Int} (h : Ext w w') (hr : Own.Reads w k A xs) : Own.Reads w' k A xs := hr.later h
theorem Ext.keep {A : Own.Asn} (hA : Own.Lcl A) {w w' : World} {S : Nat → Prop} (h : Ext w w') (ha : A w S) : A w' S := hA.keep ha fun k hk => h.block k (hA.lt ha hk)

end Go.Proofs.Ythemincohmgihaa.Rely
