/-
  No cell of these rows narrows 'for every input' (looked for: loops, veiled, ifaces, maps, wideKeys, modest, calm, conditions, laid).
  DERIVED. THE GIVEN ROWS OF THIS SEAT. 8 by the template 'for every input the law returns true; each argument reads behind the call as it read before'; 0 by the template 'total and deterministic' (their statements: YtoijcblldeahiaaTotals.lean).
  GIVEN WITH THE SEED: the statements are not yours to turn. If you find one false, say at which input.
  Laid BY PROGRAM, IN A SANDBOX (cutbox-rows.mjs): the forced cells as the released guide's own fill.sh prints them over the translation 89ad969e98cac247… (all of the seat's roots in one cut). By AI agents, Wed Nov 11 2026. No macro, syntax, notation, axiom, sorry.
-/
import Derived.Test.YtoijcblldeahiaaChecked
import GoSem.Claim
import GoSem.ClaimJoined
import GoSem.ClaimMapViews
import Derived.JoinedTies
import Derived.KernelRfl
namespace Go.Proofs.Ytoijcblldeahiaa
/- THE CELL 'sum', in the pinned program and in every row, IS THE sha256 OF THE DUMP (.gsa) THAT YtoijcblldeahiaaProg.lean LOADS. Nothing in Lean hashes anything: it is a label: what it is worth is what the hold of that sum in a sandbox is worth. -/
noncomputable def Try.pinned : Pinned := { name := "ytoijcblldeahiaa", sum := "89ad969e98cac247d64d538cf29abe8a89aec14ece4c17997babdaac29832620", checked := Try.checked }
namespace Rows
def none {H : Type} : Left H := { results := [], args := [] }

/-- 'herbariumlaw07.ModelSees': WHATEVER THE INPUT: true; the input reads as it did. -/
def modelSeesSpec : ChangeSpec := { name := "modelSees", fn := fun _ => fun
  | [d1, d2, d3] => { results := [.lit (.bool true)], args := [d1, d2, d3] }
  | _ => none }
def modelSeesRow : OpenClaim := { program := "ytoijcblldeahiaa", sum := "89ad969e98cac247d64d538cf29abe8a89aec14ece4c17997babdaac29832620", func := "herbarium/herbariumlaw07.ModelSees", spec := "modelSees", apart := false }
def ModelSeesSaid : Prop := modelSeesRow.holds Try.pinned (OpenSpec.ofChange modelSeesSpec)

/-- ITS FALSE NEIGHBOUR: 'it returns false'. Refute it at one input. -/
def modelSeesWrong : ChangeSpec := { name := "modelSees", fn := fun _ => fun
  | [d1, d2, d3] => { results := [.lit (.bool false)], args := [d1, d2, d3] }
  | _ => none }
def ModelSeesWrongFalsely : Prop := modelSeesRow.holds Try.pinned (OpenSpec.ofChange modelSeesWrong)

/-- 'herbariumlaw07.ModelNone': WHATEVER THE INPUT: true; the input reads as it did. -/
def modelNoneSpec : ChangeSpec := { name := "modelNone", fn := fun _ => fun
  | [d1, d2, d3] => { results := [.lit (.bool true)], args := [d1, d2, d3] }
  | _ => none }
def modelNoneRow : OpenClaim := { program := "ytoijcblldeahiaa", sum := "89ad969e98cac247d64d538cf29abe8a89aec14ece4c17997babdaac29832620", func := "herbarium/herbariumlaw07.ModelNone", spec := "modelNone", apart := false }
def ModelNoneSaid : Prop := modelNoneRow.holds Try.pinned (OpenSpec.ofChange modelNoneSpec)

/-- ITS FALSE NEIGHBOUR: 'it returns false'. Refute it at one input. -/
def modelNoneWrong : ChangeSpec := { name := "modelNone", fn := fun _ => fun
  | [d1, d2, d3] => { results := [.lit (.bool false)], args := [d1, d2, d3] }
  | _ => none }
def ModelNoneWrongFalsely : Prop := modelNoneRow.holds Try.pinned (OpenSpec.ofChange modelNoneWrong)

/-- 'herbariumlaw07.ModelFair': WHATEVER THE INPUT: true; the input reads as it did. -/
def modelFairSpec : ChangeSpec := { name := "modelFair", fn := fun _ => fun
  | [d1, d2] => { results := [.lit (.bool true)], args := [d1, d2] }
  | _ => none }
def modelFairRow : OpenClaim := { program := "ytoijcblldeahiaa", sum := "89ad969e98cac247d64d538cf29abe8a89aec14ece4c17997babdaac29832620", func := "herbarium/herbariumlaw07.ModelFair", spec := "modelFair", apart := false }
def ModelFairSaid : Prop := modelFairRow.holds Try.pinned (OpenSpec.ofChange modelFairSpec)

/-- ITS FALSE NEIGHBOUR: 'it returns false'. Refute it at one input. -/
def modelFairWrong : ChangeSpec := { name := "modelFair", fn := fun _ => fun
  | [d1, d2] => { results := [.lit (.bool false)], args := [d1, d2] }
  | _ => none }
def ModelFairWrongFalsely : Prop := modelFairRow.holds Try.pinned (OpenSpec.ofChange modelFairWrong)

/-- 'herbariumlaw08.CoderAny': WHATEVER THE INPUT: true; the input reads as it did. -/
def coderAnySpec : ChangeSpec := { name := "coderAny", fn := fun _ => fun
  | [d1, d2, d3, d4, d5, d6] => { results := [.lit (.bool true)], args := [d1, d2, d3, d4, d5, d6] }
  | _ => none }
def coderAnyRow : OpenClaim := { program := "ytoijcblldeahiaa", sum := "89ad969e98cac247d64d538cf29abe8a89aec14ece4c17997babdaac29832620", func := "herbarium/herbariumlaw08.CoderAny", spec := "coderAny", apart := false }
def CoderAnySaid : Prop := coderAnyRow.holds Try.pinned (OpenSpec.ofChange coderAnySpec)

/-- ITS FALSE NEIGHBOUR: 'it returns false'. Refute it at one input. -/
def coderAnyWrong : ChangeSpec := { name := "coderAny", fn := fun _ => fun
  | [d1, d2, d3, d4, d5, d6] => { results := [.lit (.bool false)], args := [d1, d2, d3, d4, d5, d6] }
  | _ => none }
def CoderAnyWrongFalsely : Prop := coderAnyRow.holds Try.pinned (OpenSpec.ofChange coderAnyWrong)

/-- 'herbariumlaw08.CoderShort': WHATEVER THE INPUT: true; the input reads as it did. -/
def coderShortSpec : ChangeSpec := { name := "coderShort", fn := fun _ => fun
  | [d1, d2, d3] => { results := [.lit (.bool true)], args := [d1, d2, d3] }
  | _ => none }
def coderShortRow : OpenClaim := { program := "ytoijcblldeahiaa", sum := "89ad969e98cac247d64d538cf29abe8a89aec14ece4c17997babdaac29832620", func := "herbarium/herbariumlaw08.CoderShort", spec := "coderShort", apart := false }
def CoderShortSaid : Prop := coderShortRow.holds Try.pinned (OpenSpec.ofChange coderShortSpec)

/-- ITS FALSE NEIGHBOUR: 'it returns false'. Refute it at one input. -/
def coderShortWrong : ChangeSpec := { name := "coderShort", fn := fun _ => fun
  | [d1, d2, d3] => { results := [.lit (.bool false)], args := [d1, d2, d3] }
  | _ => none }
def CoderShortWrongFalsely : Prop := coderShortRow.holds Try.pinned (OpenSpec.ofChange coderShortWrong)

/-- 'herbariumlaw08.CoderApart': WHATEVER THE INPUT: true; the input reads as it did. -/
def coderApartSpec : ChangeSpec := { name := "coderApart", fn := fun _ => fun
  | [d1, d2, d3, d4] => { results := [.lit (.bool true)], args := [d1, d2, d3, d4] }
  | _ => none }
def coderApartRow : OpenClaim := { program := "ytoijcblldeahiaa", sum := "89ad969e98cac247d64d538cf29abe8a89aec14ece4c17997babdaac29832620", func := "herbarium/herbariumlaw08.CoderApart", spec := "coderApart", apart := false }
def CoderApartSaid : Prop := coderApartRow.holds Try.pinned (OpenSpec.ofChange coderApartSpec)

/-- ITS FALSE NEIGHBOUR: 'it returns false'. Refute it at one input. -/
def coderApartWrong : ChangeSpec := { name := "coderApart", fn := fun _ => fun
  | [d1, d2, d3, d4] => { results := [.lit (.bool false)], args := [d1, d2, d3, d4] }
  | _ => none }
def CoderApartWrongFalsely : Prop := coderApartRow.holds Try.pinned (OpenSpec.ofChange coderApartWrong)

/-- 'herbariumlaw08.CoderGrows': WHATEVER THE INPUT: true; the input reads as it did. -/
def coderGrowsSpec : ChangeSpec := { name := "coderGrows", fn := fun _ => fun
  | [d1, d2, d3] => { results := [.lit (.bool true)], args := [d1, d2, d3] }
  | _ => none }
def coderGrowsRow : OpenClaim := { program := "ytoijcblldeahiaa", sum := "89ad969e98cac247d64d538cf29abe8a89aec14ece4c17997babdaac29832620", func := "herbarium/herbariumlaw08.CoderGrows", spec := "coderGrows", apart := false }
def CoderGrowsSaid : Prop := coderGrowsRow.holds Try.pinned (OpenSpec.ofChange coderGrowsSpec)

/-- ITS FALSE NEIGHBOUR: 'it returns false'. Refute it at one input. -/
def coderGrowsWrong : ChangeSpec := { name := "coderGrows", fn := fun _ => fun
  | [d1, d2, d3] => { results := [.lit (.bool false)], args := [d1, d2, d3] }
  | _ => none }
def CoderGrowsWrongFalsely : Prop := coderGrowsRow.holds Try.pinned (OpenSpec.ofChange coderGrowsWrong)

/-- 'herbariumlaw08.CoderPuts': WHATEVER THE INPUT: true; the input reads as it did. -/
def coderPutsSpec : ChangeSpec := { name := "coderPuts", fn := fun _ => fun
  | [d1, d2, d3] => { results := [.lit (.bool true)], args := [d1, d2, d3] }
  | _ => none }
def coderPutsRow : OpenClaim := { program := "ytoijcblldeahiaa", sum := "89ad969e98cac247d64d538cf29abe8a89aec14ece4c17997babdaac29832620", func := "herbarium/herbariumlaw08.CoderPuts", spec := "coderPuts", apart := false }
def CoderPutsSaid : Prop := coderPutsRow.holds Try.pinned (OpenSpec.ofChange coderPutsSpec)

/-- ITS FALSE NEIGHBOUR: 'it returns false'. Refute it at one input. -/
def coderPutsWrong : ChangeSpec := { name := "coderPuts", fn := fun _ => fun
  | [d1, d2, d3] => { results := [.lit (.bool false)], args := [d1, d2, d3] }
  | _ => none }
def CoderPutsWrongFalsely : Prop := coderPutsRow.holds Try.pinned (OpenSpec.ofChange coderPutsWrong)

/- THE SECOND FORM. 'bulk': how many values and letters a reading holds, each counted each time it is reached (what is shared counts as often as it is met; a slice's spare places count too). A statement '..UptoSaid' is the law's where the arguments, and the package variables that the reading takes, are together of bulk at most 1048576: NARROWER than '..Said'. Prove '..Said' where nothing that the law and all that it calls make is longer than what came in: it says more and counts as full. Else prove '..UptoSaid'. A law counts once. -/
mutual
def uptoBulk {H : Type} : DataW H → Nat
  | .lit (.string bytes) => bytes.length + 1
  | .lit _ => 1
  | .nil => 1
  | .ptr d => uptoBulk d + 1
  | .slice elems spare => uptoBulkAll elems + uptoBulkAll spare + 1
  | .agg parts => uptoBulkAll parts + 1
  | .iface _ d => uptoBulk d + 1
  | .map entries => uptoBulkEntries entries + 1
  | .held _ => 1
def uptoBulkAll {H : Type} : List (DataW H) → Nat
  | [] => 0
  | d :: r => uptoBulk d + uptoBulkAll r
def uptoBulkEntries {H : Type} : List (Lit × DataW H) → Nat
  | [] => 0
  | x :: r => uptoBulkEntry x + uptoBulkEntries r
def uptoBulkEntry {H : Type} : Lit × DataW H → Nat
  | (.string bytes, d) => bytes.length + uptoBulk d + 1
  | (_, d) => uptoBulk d + 1
 end
def uptoSmall : (H : Type) → List (DataW H) → Bool := fun _ ds => decide (uptoBulkAll ds ≤ 1048576)
def OpenSpec.upto (s : _root_.Go.ChangeSpec) : _root_.Go.OpenSpec := { _root_.Go.OpenSpec.ofChange s with cond := some uptoSmall }

/-- 'herbariumlaw07.ModelSees', WHERE WHAT IT READS IS OF BULK AT MOST 1048576: true; the input reads as it did. -/
def modelSeesUptoRow : OpenClaim := { program := "ytoijcblldeahiaa", sum := "89ad969e98cac247d64d538cf29abe8a89aec14ece4c17997babdaac29832620", func := "herbarium/herbariumlaw07.ModelSees", spec := "modelSees", apart := false, narrowed := true }
def ModelSeesUptoSaid : Prop := modelSeesUptoRow.holds Try.pinned (OpenSpec.upto modelSeesSpec)

/-- 'herbariumlaw07.ModelNone', WHERE WHAT IT READS IS OF BULK AT MOST 1048576: true; the input reads as it did. -/
def modelNoneUptoRow : OpenClaim := { program := "ytoijcblldeahiaa", sum := "89ad969e98cac247d64d538cf29abe8a89aec14ece4c17997babdaac29832620", func := "herbarium/herbariumlaw07.ModelNone", spec := "modelNone", apart := false, narrowed := true }
def ModelNoneUptoSaid : Prop := modelNoneUptoRow.holds Try.pinned (OpenSpec.upto modelNoneSpec)

/-- 'herbariumlaw07.ModelFair', WHERE WHAT IT READS IS OF BULK AT MOST 1048576: true; the input reads as it did. -/
def modelFairUptoRow : OpenClaim := { program := "ytoijcblldeahiaa", sum := "89ad969e98cac247d64d538cf29abe8a89aec14ece4c17997babdaac29832620", func := "herbarium/herbariumlaw07.ModelFair", spec := "modelFair", apart := false, narrowed := true }
def ModelFairUptoSaid : Prop := modelFairUptoRow.holds Try.pinned (OpenSpec.upto modelFairSpec)

/-- 'herbariumlaw08.CoderAny', WHERE WHAT IT READS IS OF BULK AT MOST 1048576: true; the input reads as it did. -/
def coderAnyUptoRow : OpenClaim := { program := "ytoijcblldeahiaa", sum := "89ad969e98cac247d64d538cf29abe8a89aec14ece4c17997babdaac29832620", func := "herbarium/herbariumlaw08.CoderAny", spec := "coderAny", apart := false, narrowed := true }
def CoderAnyUptoSaid : Prop := coderAnyUptoRow.holds Try.pinned (OpenSpec.upto coderAnySpec)

/-- 'herbariumlaw08.CoderShort', WHERE WHAT IT READS IS OF BULK AT MOST 1048576: true; the input reads as it did. -/
def coderShortUptoRow : OpenClaim := { program := "ytoijcblldeahiaa", sum := "89ad969e98cac247d64d538cf29abe8a89aec14ece4c17997babdaac29832620", func := "herbarium/herbariumlaw08.CoderShort", spec := "coderShort", apart := false, narrowed := true }
def CoderShortUptoSaid : Prop := coderShortUptoRow.holds Try.pinned (OpenSpec.upto coderShortSpec)

/-- 'herbariumlaw08.CoderApart', WHERE WHAT IT READS IS OF BULK AT MOST 1048576: true; the input reads as it did. -/
def coderApartUptoRow : OpenClaim := { program := "ytoijcblldeahiaa", sum := "89ad969e98cac247d64d538cf29abe8a89aec14ece4c17997babdaac29832620", func := "herbarium/herbariumlaw08.CoderApart", spec := "coderApart", apart := false, narrowed := true }
def CoderApartUptoSaid : Prop := coderApartUptoRow.holds Try.pinned (OpenSpec.upto coderApartSpec)

/-- 'herbariumlaw08.CoderGrows', WHERE WHAT IT READS IS OF BULK AT MOST 1048576: true; the input reads as it did. -/
def coderGrowsUptoRow : OpenClaim := { program := "ytoijcblldeahiaa", sum := "89ad969e98cac247d64d538cf29abe8a89aec14ece4c17997babdaac29832620", func := "herbarium/herbariumlaw08.CoderGrows", spec := "coderGrows", apart := false, narrowed := true }
def CoderGrowsUptoSaid : Prop := coderGrowsUptoRow.holds Try.pinned (OpenSpec.upto coderGrowsSpec)

/-- 'herbariumlaw08.CoderPuts', WHERE WHAT IT READS IS OF BULK AT MOST 1048576: true; the input reads as it did. -/
def coderPutsUptoRow : OpenClaim := { program := "ytoijcblldeahiaa", sum := "89ad969e98cac247d64d538cf29abe8a89aec14ece4c17997babdaac29832620", func := "herbarium/herbariumlaw08.CoderPuts", spec := "coderPuts", apart := false, narrowed := true }
def CoderPutsUptoSaid : Prop := coderPutsUptoRow.holds Try.pinned (OpenSpec.upto coderPutsSpec)

end Rows
end Go.Proofs.Ytoijcblldeahiaa
