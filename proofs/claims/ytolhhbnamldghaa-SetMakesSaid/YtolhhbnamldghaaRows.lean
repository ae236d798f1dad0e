/-
  No cell of these rows narrows 'for every input' (looked for: loops, veiled, ifaces, maps, wideKeys, modest, calm, conditions, laid).
  DERIVED. THE GIVEN ROWS OF THIS SEAT. 10 by the template 'for every input the law returns true; each argument reads behind the call as it read before'; 0 by the template 'total and deterministic' (their statements: YtolhhbnamldghaaTotals.lean).
  GIVEN WITH THE SEED: the statements are not yours to turn. If you find one false, say at which input.
  Laid BY PROGRAM, IN A SANDBOX (cutbox-rows.mjs): the forced cells as the released guide's own fill.sh prints them over the translation a9d3fb40418ac0a1… (all of the seat's roots in one cut). By AI agents, Wed Nov 11 2026. No macro, syntax, notation, axiom, sorry.
-/
import Derived.Test.YtolhhbnamldghaaChecked
import GoSem.Claim
import GoSem.ClaimJoined
import GoSem.ClaimMapViews
import Derived.JoinedTies
import Derived.KernelRfl
namespace Go.Proofs.Ytolhhbnamldghaa
/- THE CELL 'sum', in the pinned program and in every row, IS THE sha256 OF THE DUMP (.gsa) THAT YtolhhbnamldghaaProg.lean LOADS. Nothing in Lean hashes anything: it is a label: what it is worth is what the hold of that sum in a sandbox is worth. -/
noncomputable def Try.pinned : Pinned := { name := "ytolhhbnamldghaa", sum := "a9d3fb40418ac0a106c6f292122008a3c93a171ad08dae5e155b4fe4f277ef2e", checked := Try.checked }
namespace Rows
def none {H : Type} : Left H := { results := [], args := [] }

/-- 'herbariumlaw11.SetChecks': WHATEVER THE INPUT: true; the input reads as it did. -/
def setChecksSpec : ChangeSpec := { name := "setChecks", fn := fun _ => fun
  | [d1, d2, d3] => { results := [.lit (.bool true)], args := [d1, d2, d3] }
  | _ => none }
def setChecksRow : OpenClaim := { program := "ytolhhbnamldghaa", sum := "a9d3fb40418ac0a106c6f292122008a3c93a171ad08dae5e155b4fe4f277ef2e", func := "herbarium/herbariumlaw11.SetChecks", spec := "setChecks", apart := false }
def SetChecksSaid : Prop := setChecksRow.holds Try.pinned (OpenSpec.ofChange setChecksSpec)

/-- ITS FALSE NEIGHBOUR: 'it returns false'. Refute it at one input. -/
def setChecksWrong : ChangeSpec := { name := "setChecks", fn := fun _ => fun
  | [d1, d2, d3] => { results := [.lit (.bool false)], args := [d1, d2, d3] }
  | _ => none }
def SetChecksWrongFalsely : Prop := setChecksRow.holds Try.pinned (OpenSpec.ofChange setChecksWrong)

/-- 'herbariumlaw13.HllChecks': WHATEVER THE INPUT: true; the input reads as it did. -/
def hllChecksSpec : ChangeSpec := { name := "hllChecks", fn := fun _ => fun
  | [d1, d2, d3, d4, d5] => { results := [.lit (.bool true)], args := [d1, d2, d3, d4, d5] }
  | _ => none }
def hllChecksRow : OpenClaim := { program := "ytolhhbnamldghaa", sum := "a9d3fb40418ac0a106c6f292122008a3c93a171ad08dae5e155b4fe4f277ef2e", func := "herbarium/herbariumlaw13.HllChecks", spec := "hllChecks", unfollowed := true, recurses := true, apart := false }
def HllChecksSaid : Prop := hllChecksRow.holds Try.pinned (OpenSpec.ofChange hllChecksSpec)

/-- ITS FALSE NEIGHBOUR: 'it returns false'. Refute it at one input. -/
def hllChecksWrong : ChangeSpec := { name := "hllChecks", fn := fun _ => fun
  | [d1, d2, d3, d4, d5] => { results := [.lit (.bool false)], args := [d1, d2, d3, d4, d5] }
  | _ => none }
def HllChecksWrongFalsely : Prop := hllChecksRow.holds Try.pinned (OpenSpec.ofChange hllChecksWrong)

/-- 'herbariumlaw13.HllPlaces': WHATEVER THE INPUT: true; the input reads as it did. -/
def hllPlacesSpec : ChangeSpec := { name := "hllPlaces", fn := fun _ => fun
  | [d1, d2, d3] => { results := [.lit (.bool true)], args := [d1, d2, d3] }
  | _ => none }
def hllPlacesRow : OpenClaim := { program := "ytolhhbnamldghaa", sum := "a9d3fb40418ac0a106c6f292122008a3c93a171ad08dae5e155b4fe4f277ef2e", func := "herbarium/herbariumlaw13.HllPlaces", spec := "hllPlaces", apart := false }
def HllPlacesSaid : Prop := hllPlacesRow.holds Try.pinned (OpenSpec.ofChange hllPlacesSpec)

/-- ITS FALSE NEIGHBOUR: 'it returns false'. Refute it at one input. -/
def hllPlacesWrong : ChangeSpec := { name := "hllPlaces", fn := fun _ => fun
  | [d1, d2, d3] => { results := [.lit (.bool false)], args := [d1, d2, d3] }
  | _ => none }
def HllPlacesWrongFalsely : Prop := hllPlacesRow.holds Try.pinned (OpenSpec.ofChange hllPlacesWrong)

/-- 'herbariumlaw11.SetMakes': WHATEVER THE INPUT: true; the input reads as it did. -/
def setMakesSpec : ChangeSpec := { name := "setMakes", fn := fun _ => fun
  | [d1, d2, d3] => { results := [.lit (.bool true)], args := [d1, d2, d3] }
  | _ => none }
def setMakesRow : OpenClaim := { program := "ytolhhbnamldghaa", sum := "a9d3fb40418ac0a106c6f292122008a3c93a171ad08dae5e155b4fe4f277ef2e", func := "herbarium/herbariumlaw11.SetMakes", spec := "setMakes", apart := false }
def SetMakesSaid : Prop := setMakesRow.holds Try.pinned (OpenSpec.ofChange setMakesSpec)

/-- ITS FALSE NEIGHBOUR: 'it returns false'. Refute it at one input. -/
def setMakesWrong : ChangeSpec := { name := "setMakes", fn := fun _ => fun
  | [d1, d2, d3] => { results := [.lit (.bool false)], args := [d1, d2, d3] }
  | _ => none }
def SetMakesWrongFalsely : Prop := setMakesRow.holds Try.pinned (OpenSpec.ofChange setMakesWrong)

/-- 'herbariumlaw13.HllAbout': WHATEVER THE INPUT: true; the input reads as it did. -/
def hllAboutSpec : ChangeSpec := { name := "hllAbout", fn := fun _ => fun
  | [d1, d2, d3] => { results := [.lit (.bool true)], args := [d1, d2, d3] }
  | _ => none }
def hllAboutRow : OpenClaim := { program := "ytolhhbnamldghaa", sum := "a9d3fb40418ac0a106c6f292122008a3c93a171ad08dae5e155b4fe4f277ef2e", func := "herbarium/herbariumlaw13.HllAbout", spec := "hllAbout", apart := false }
def HllAboutSaid : Prop := hllAboutRow.holds Try.pinned (OpenSpec.ofChange hllAboutSpec)

/-- ITS FALSE NEIGHBOUR: 'it returns false'. Refute it at one input. -/
def hllAboutWrong : ChangeSpec := { name := "hllAbout", fn := fun _ => fun
  | [d1, d2, d3] => { results := [.lit (.bool false)], args := [d1, d2, d3] }
  | _ => none }
def HllAboutWrongFalsely : Prop := hllAboutRow.holds Try.pinned (OpenSpec.ofChange hllAboutWrong)

/-- 'herbariumlaw13.HllTwice': WHATEVER THE INPUT: true; the input reads as it did. -/
def hllTwiceSpec : ChangeSpec := { name := "hllTwice", fn := fun _ => fun
  | [d1, d2, d3] => { results := [.lit (.bool true)], args := [d1, d2, d3] }
  | _ => none }
def hllTwiceRow : OpenClaim := { program := "ytolhhbnamldghaa", sum := "a9d3fb40418ac0a106c6f292122008a3c93a171ad08dae5e155b4fe4f277ef2e", func := "herbarium/herbariumlaw13.HllTwice", spec := "hllTwice", apart := false }
def HllTwiceSaid : Prop := hllTwiceRow.holds Try.pinned (OpenSpec.ofChange hllTwiceSpec)

/-- ITS FALSE NEIGHBOUR: 'it returns false'. Refute it at one input. -/
def hllTwiceWrong : ChangeSpec := { name := "hllTwice", fn := fun _ => fun
  | [d1, d2, d3] => { results := [.lit (.bool false)], args := [d1, d2, d3] }
  | _ => none }
def HllTwiceWrongFalsely : Prop := hllTwiceRow.holds Try.pinned (OpenSpec.ofChange hllTwiceWrong)

/-- 'herbariumlaw11.SetLaws': WHATEVER THE INPUT: true; the input reads as it did. -/
def setLawsSpec : ChangeSpec := { name := "setLaws", fn := fun _ => fun
  | [d1, d2, d3, d4] => { results := [.lit (.bool true)], args := [d1, d2, d3, d4] }
  | _ => none }
def setLawsRow : OpenClaim := { program := "ytolhhbnamldghaa", sum := "a9d3fb40418ac0a106c6f292122008a3c93a171ad08dae5e155b4fe4f277ef2e", func := "herbarium/herbariumlaw11.SetLaws", spec := "setLaws", apart := false }
def SetLawsSaid : Prop := setLawsRow.holds Try.pinned (OpenSpec.ofChange setLawsSpec)

/-- ITS FALSE NEIGHBOUR: 'it returns false'. Refute it at one input. -/
def setLawsWrong : ChangeSpec := { name := "setLaws", fn := fun _ => fun
  | [d1, d2, d3, d4] => { results := [.lit (.bool false)], args := [d1, d2, d3, d4] }
  | _ => none }
def SetLawsWrongFalsely : Prop := setLawsRow.holds Try.pinned (OpenSpec.ofChange setLawsWrong)

/-- 'herbariumlaw13.HllMerges': WHATEVER THE INPUT: true; the input reads as it did. -/
def hllMergesSpec : ChangeSpec := { name := "hllMerges", fn := fun _ => fun
  | [d1, d2, d3] => { results := [.lit (.bool true)], args := [d1, d2, d3] }
  | _ => none }
def hllMergesRow : OpenClaim := { program := "ytolhhbnamldghaa", sum := "a9d3fb40418ac0a106c6f292122008a3c93a171ad08dae5e155b4fe4f277ef2e", func := "herbarium/herbariumlaw13.HllMerges", spec := "hllMerges", apart := false }
def HllMergesSaid : Prop := hllMergesRow.holds Try.pinned (OpenSpec.ofChange hllMergesSpec)

/-- ITS FALSE NEIGHBOUR: 'it returns false'. Refute it at one input. -/
def hllMergesWrong : ChangeSpec := { name := "hllMerges", fn := fun _ => fun
  | [d1, d2, d3] => { results := [.lit (.bool false)], args := [d1, d2, d3] }
  | _ => none }
def HllMergesWrongFalsely : Prop := hllMergesRow.holds Try.pinned (OpenSpec.ofChange hllMergesWrong)

/-- 'herbariumlaw13.HllAdds': WHATEVER THE INPUT: true; the input reads as it did. -/
def hllAddsSpec : ChangeSpec := { name := "hllAdds", fn := fun _ => fun
  | [d1, d2] => { results := [.lit (.bool true)], args := [d1, d2] }
  | _ => none }
def hllAddsRow : OpenClaim := { program := "ytolhhbnamldghaa", sum := "a9d3fb40418ac0a106c6f292122008a3c93a171ad08dae5e155b4fe4f277ef2e", func := "herbarium/herbariumlaw13.HllAdds", spec := "hllAdds", apart := false }
def HllAddsSaid : Prop := hllAddsRow.holds Try.pinned (OpenSpec.ofChange hllAddsSpec)

/-- ITS FALSE NEIGHBOUR: 'it returns false'. Refute it at one input. -/
def hllAddsWrong : ChangeSpec := { name := "hllAdds", fn := fun _ => fun
  | [d1, d2] => { results := [.lit (.bool false)], args := [d1, d2] }
  | _ => none }
def HllAddsWrongFalsely : Prop := hllAddsRow.holds Try.pinned (OpenSpec.ofChange hllAddsWrong)

/-- 'herbariumlaw11.SetBoth': WHATEVER THE INPUT: true; the input reads as it did. -/
def setBothSpec : ChangeSpec := { name := "setBoth", fn := fun _ => fun
  | [d1, d2, d3] => { results := [.lit (.bool true)], args := [d1, d2, d3] }
  | _ => none }
def setBothRow : OpenClaim := { program := "ytolhhbnamldghaa", sum := "a9d3fb40418ac0a106c6f292122008a3c93a171ad08dae5e155b4fe4f277ef2e", func := "herbarium/herbariumlaw11.SetBoth", spec := "setBoth", apart := false }
def SetBothSaid : Prop := setBothRow.holds Try.pinned (OpenSpec.ofChange setBothSpec)

/-- ITS FALSE NEIGHBOUR: 'it returns false'. Refute it at one input. -/
def setBothWrong : ChangeSpec := { name := "setBoth", fn := fun _ => fun
  | [d1, d2, d3] => { results := [.lit (.bool false)], args := [d1, d2, d3] }
  | _ => none }
def SetBothWrongFalsely : Prop := setBothRow.holds Try.pinned (OpenSpec.ofChange setBothWrong)

/- THE SECOND FORM. 'bulk': how many values and letters a reading holds, each counted each time it is reached (what is shared counts as often as it is met; a slice's spare places count too). A statement '..UptoSaid' is the law's where the arguments, and the package variables that the reading takes, are together of bulk at most 1048576: NARROWER than '..Said'. Prove '..Said' where nothing that the law and all that it calls make is longer than what came in: it says more and counts as full. Else prove '..UptoSaid'. A law counts once. -/
mutual
def uptoBulk {H : Type} : DataW H → Nat
  | .lit (.string bytes) => bytes.length + 1
  | .lit _ => 1
  | .nil => 1
  | .ptr d => uptoBulk d + 1
  | .slice elems spare => uptoBulkAll elems + uptoBulkAll spare + 1
  | .agg parts => uptoBulkAll parts + 1
  | .iface _ d => uptoBulk d + 1
  | .map entries => uptoBulkEntries entries + 1
  | .held _ => 1
def uptoBulkAll {H : Type} : List (DataW H) → Nat
  | [] => 0
  | d :: r => uptoBulk d + uptoBulkAll r
def uptoBulkEntries {H : Type} : List (Lit × DataW H) → Nat
  | [] => 0
  | x :: r => uptoBulkEntry x + uptoBulkEntries r
def uptoBulkEntry {H : Type} : Lit × DataW H → Nat
  | (.string bytes, d) => bytes.length + uptoBulk d + 1
  | (_, d) => uptoBulk d + 1
 end
def uptoSmall : (H : Type) → List (DataW H) → Bool := fun _ ds => decide (uptoBulkAll ds ≤ 1048576)
def OpenSpec.upto (s : _root_.Go.ChangeSpec) : _root_.Go.OpenSpec := { _root_.Go.OpenSpec.ofChange s with cond := some uptoSmall }

/-- 'herbariumlaw11.SetChecks', WHERE WHAT IT READS IS OF BULK AT MOST 1048576: true; the input reads as it did. -/
def setChecksUptoRow : OpenClaim := { program := "ytolhhbnamldghaa", sum := "a9d3fb40418ac0a106c6f292122008a3c93a171ad08dae5e155b4fe4f277ef2e", func := "herbarium/herbariumlaw11.SetChecks", spec := "setChecks", apart := false, narrowed := true }
def SetChecksUptoSaid : Prop := setChecksUptoRow.holds Try.pinned (OpenSpec.upto setChecksSpec)

/-- 'herbariumlaw13.HllChecks', WHERE WHAT IT READS IS OF BULK AT MOST 1048576: true; the input reads as it did. -/
def hllChecksUptoRow : OpenClaim := { program := "ytolhhbnamldghaa", sum := "a9d3fb40418ac0a106c6f292122008a3c93a171ad08dae5e155b4fe4f277ef2e", func := "herbarium/herbariumlaw13.HllChecks", spec := "hllChecks", unfollowed := true, recurses := true, apart := false, narrowed := true }
def HllChecksUptoSaid : Prop := hllChecksUptoRow.holds Try.pinned (OpenSpec.upto hllChecksSpec)

/-- 'herbariumlaw13.HllPlaces', WHERE WHAT IT READS IS OF BULK AT MOST 1048576: true; the input reads as it did. -/
def hllPlacesUptoRow : OpenClaim := { program := "ytolhhbnamldghaa", sum := "a9d3fb40418ac0a106c6f292122008a3c93a171ad08dae5e155b4fe4f277ef2e", func := "herbarium/herbariumlaw13.HllPlaces", spec := "hllPlaces", apart := false, narrowed := true }
def HllPlacesUptoSaid : Prop := hllPlacesUptoRow.holds Try.pinned (OpenSpec.upto hllPlacesSpec)

/-- 'herbariumlaw11.SetMakes', WHERE WHAT IT READS IS OF BULK AT MOST 1048576: true; the input reads as it did. -/
def setMakesUptoRow : OpenClaim := { program := "ytolhhbnamldghaa", sum := "a9d3fb40418ac0a106c6f292122008a3c93a171ad08dae5e155b4fe4f277ef2e", func := "herbarium/herbariumlaw11.SetMakes", spec := "setMakes", apart := false, narrowed := true }
def SetMakesUptoSaid : Prop := setMakesUptoRow.holds Try.pinned (OpenSpec.upto setMakesSpec)

/-- 'herbariumlaw13.HllAbout', WHERE WHAT IT READS IS OF BULK AT MOST 1048576: true; the input reads as it did. -/
def hllAboutUptoRow : OpenClaim := { program := "ytolhhbnamldghaa", sum := "a9d3fb40418ac0a106c6f292122008a3c93a171ad08dae5e155b4fe4f277ef2e", func := "herbarium/herbariumlaw13.HllAbout", spec := "hllAbout", apart := false, narrowed := true }
def HllAboutUptoSaid : Prop := hllAboutUptoRow.holds Try.pinned (OpenSpec.upto hllAboutSpec)

/-- 'herbariumlaw13.HllTwice', WHERE WHAT IT READS IS OF BULK AT MOST 1048576: true; the input reads as it did. -/
def hllTwiceUptoRow : OpenClaim := { program := "ytolhhbnamldghaa", sum := "a9d3fb40418ac0a106c6f292122008a3c93a171ad08dae5e155b4fe4f277ef2e", func := "herbarium/herbariumlaw13.HllTwice", spec := "hllTwice", apart := false, narrowed := true }
def HllTwiceUptoSaid : Prop := hllTwiceUptoRow.holds Try.pinned (OpenSpec.upto hllTwiceSpec)

/-- 'herbariumlaw11.SetLaws', WHERE WHAT IT READS IS OF BULK AT MOST 1048576: true; the input reads as it did. -/
def setLawsUptoRow : OpenClaim := { program := "ytolhhbnamldghaa", sum := "a9d3fb40418ac0a106c6f292122008a3c93a171ad08dae5e155b4fe4f277ef2e", func := "herbarium/herbariumlaw11.SetLaws", spec := "setLaws", apart := false, narrowed := true }
def SetLawsUptoSaid : Prop := setLawsUptoRow.holds Try.pinned (OpenSpec.upto setLawsSpec)

/-- 'herbariumlaw13.HllMerges', WHERE WHAT IT READS IS OF BULK AT MOST 1048576: true; the input reads as it did. -/
def hllMergesUptoRow : OpenClaim := { program := "ytolhhbnamldghaa", sum := "a9d3fb40418ac0a106c6f292122008a3c93a171ad08dae5e155b4fe4f277ef2e", func := "herbarium/herbariumlaw13.HllMerges", spec := "hllMerges", apart := false, narrowed := true }
def HllMergesUptoSaid : Prop := hllMergesUptoRow.holds Try.pinned (OpenSpec.upto hllMergesSpec)

/-- 'herbariumlaw13.HllAdds', WHERE WHAT IT READS IS OF BULK AT MOST 1048576: true; the input reads as it did. -/
def hllAddsUptoRow : OpenClaim := { program := "ytolhhbnamldghaa", sum := "a9d3fb40418ac0a106c6f292122008a3c93a171ad08dae5e155b4fe4f277ef2e", func := "herbarium/herbariumlaw13.HllAdds", spec := "hllAdds", apart := false, narrowed := true }
def HllAddsUptoSaid : Prop := hllAddsUptoRow.holds Try.pinned (OpenSpec.upto hllAddsSpec)

/-- 'herbariumlaw11.SetBoth', WHERE WHAT IT READS IS OF BULK AT MOST 1048576: true; the input reads as it did. -/
def setBothUptoRow : OpenClaim := { program := "ytolhhbnamldghaa", sum := "a9d3fb40418ac0a106c6f292122008a3c93a171ad08dae5e155b4fe4f277ef2e", func := "herbarium/herbariumlaw11.SetBoth", spec := "setBoth", apart := false, narrowed := true }
def SetBothUptoSaid : Prop := setBothUptoRow.holds Try.pinned (OpenSpec.upto setBothSpec)

end Rows
end Go.Proofs.Ytolhhbnamldghaa
