/-
  No cell of these rows narrows 'for every input' (looked for: loops, veiled, ifaces, maps, wideKeys, modest, calm, conditions, laid).
  DERIVED. THE GIVEN ROWS OF THIS SEAT. 12 by the template 'for every input the law returns true; each argument reads behind the call as it read before'; 0 by the template 'total and deterministic' (their statements: YthemincohmgihaaTotals.lean).
  GIVEN WITH THE SEED: the statements are not yours to turn. If you find one false, say at which input.
  Laid BY PROGRAM, IN A SANDBOX (cutbox-rows.mjs): the forced cells as the released guide's own fill.sh prints them over the translation 8fa64230b2a8feef… (all of the seat's roots in one cut). By AI agents, Wed Nov 11 2026. No macro, syntax, notation, axiom, sorry.
-/
import Derived.Test.YthemincohmgihaaChecked
import GoSem.Claim
import GoSem.ClaimJoined
import GoSem.ClaimMapViews
import Derived.JoinedTies
import Derived.KernelRfl
namespace Go.Proofs.Ythemincohmgihaa
/- THE CELL 'sum', in the pinned program and in every row, IS THE sha256 OF THE DUMP (.gsa) THAT YthemincohmgihaaProg.lean LOADS. Nothing in Lean hashes anything: it is a label: what it is worth is what the hold of that sum in a sandbox is worth. -/
noncomputable def Try.pinned : Pinned := { name := "ythemincohmgihaa", sum := "8fa64230b2a8feeffa096829d73631b7c6d4161ff0ea51ab204730b56e8d4de0", checked := Try.checked }
namespace Rows
def none {H : Type} : Left H := { results := [], args := [] }

/-- 'herbariumlaw15.CmsPlus': WHATEVER THE INPUT: true; the input reads as it did. -/
def cmsPlusSpec : ChangeSpec := { name := "cmsPlus", fn := fun _ => fun
  | [d1, d2, d3] => { results := [.lit (.bool true)], args := [d1, d2, d3] }
  | _ => none }
def cmsPlusRow : OpenClaim := { program := "ythemincohmgihaa", sum := "8fa64230b2a8feeffa096829d73631b7c6d4161ff0ea51ab204730b56e8d4de0", func := "herbarium/herbariumlaw15.CmsPlus", spec := "cmsPlus", apart := false }
def CmsPlusSaid : Prop := cmsPlusRow.holds Try.pinned (OpenSpec.ofChange cmsPlusSpec)

/-- ITS FALSE NEIGHBOUR: 'it returns false'. Refute it at one input. -/
def cmsPlusWrong : ChangeSpec := { name := "cmsPlus", fn := fun _ => fun
  | [d1, d2, d3] => { results := [.lit (.bool false)], args := [d1, d2, d3] }
  | _ => none }
def CmsPlusWrongFalsely : Prop := cmsPlusRow.holds Try.pinned (OpenSpec.ofChange cmsPlusWrong)

/-- 'herbariumlaw03.MeterSplits': WHATEVER THE INPUT: true; the input reads as it did. -/
def meterSplitsSpec : ChangeSpec := { name := "meterSplits", fn := fun _ => fun
  | [d1, d2, d3] => { results := [.lit (.bool true)], args := [d1, d2, d3] }
  | _ => none }
def meterSplitsRow : OpenClaim := { program := "ythemincohmgihaa", sum := "8fa64230b2a8feeffa096829d73631b7c6d4161ff0ea51ab204730b56e8d4de0", func := "herbarium/herbariumlaw03.MeterSplits", spec := "meterSplits", apart := false }
def MeterSplitsSaid : Prop := meterSplitsRow.holds Try.pinned (OpenSpec.ofChange meterSplitsSpec)

/-- ITS FALSE NEIGHBOUR: 'it returns false'. Refute it at one input. -/
def meterSplitsWrong : ChangeSpec := { name := "meterSplits", fn := fun _ => fun
  | [d1, d2, d3] => { results := [.lit (.bool false)], args := [d1, d2, d3] }
  | _ => none }
def MeterSplitsWrongFalsely : Prop := meterSplitsRow.holds Try.pinned (OpenSpec.ofChange meterSplitsWrong)

/-- 'herbariumlaw02.CrcMixes': WHATEVER THE INPUT: true; the input reads as it did. -/
def crcMixesSpec : ChangeSpec := { name := "crcMixes", fn := fun _ => fun
  | [d1, d2, d3] => { results := [.lit (.bool true)], args := [d1, d2, d3] }
  | _ => none }
def crcMixesRow : OpenClaim := { program := "ythemincohmgihaa", sum := "8fa64230b2a8feeffa096829d73631b7c6d4161ff0ea51ab204730b56e8d4de0", func := "herbarium/herbariumlaw02.CrcMixes", spec := "crcMixes", apart := false }
def CrcMixesSaid : Prop := crcMixesRow.holds Try.pinned (OpenSpec.ofChange crcMixesSpec)

/-- ITS FALSE NEIGHBOUR: 'it returns false'. Refute it at one input. -/
def crcMixesWrong : ChangeSpec := { name := "crcMixes", fn := fun _ => fun
  | [d1, d2, d3] => { results := [.lit (.bool false)], args := [d1, d2, d3] }
  | _ => none }
def CrcMixesWrongFalsely : Prop := crcMixesRow.holds Try.pinned (OpenSpec.ofChange crcMixesWrong)

/-- 'herbariumlaw03.MeterTakes': WHATEVER THE INPUT: true; the input reads as it did. -/
def meterTakesSpec : ChangeSpec := { name := "meterTakes", fn := fun _ => fun
  | [d1, d2, d3] => { results := [.lit (.bool true)], args := [d1, d2, d3] }
  | _ => none }
def meterTakesRow : OpenClaim := { program := "ythemincohmgihaa", sum := "8fa64230b2a8feeffa096829d73631b7c6d4161ff0ea51ab204730b56e8d4de0", func := "herbarium/herbariumlaw03.MeterTakes", spec := "meterTakes", apart := false }
def MeterTakesSaid : Prop := meterTakesRow.holds Try.pinned (OpenSpec.ofChange meterTakesSpec)

/-- ITS FALSE NEIGHBOUR: 'it returns false'. Refute it at one input. -/
def meterTakesWrong : ChangeSpec := { name := "meterTakes", fn := fun _ => fun
  | [d1, d2, d3] => { results := [.lit (.bool false)], args := [d1, d2, d3] }
  | _ => none }
def MeterTakesWrongFalsely : Prop := meterTakesRow.holds Try.pinned (OpenSpec.ofChange meterTakesWrong)

/-- 'herbariumlaw03.MeterNone': WHATEVER THE INPUT: true; the input reads as it did. -/
def meterNoneSpec : ChangeSpec := { name := "meterNone", fn := fun _ => fun
  | [d1, d2] => { results := [.lit (.bool true)], args := [d1, d2] }
  | _ => none }
def meterNoneRow : OpenClaim := { program := "ythemincohmgihaa", sum := "8fa64230b2a8feeffa096829d73631b7c6d4161ff0ea51ab204730b56e8d4de0", func := "herbarium/herbariumlaw03.MeterNone", spec := "meterNone", apart := false }
def MeterNoneSaid : Prop := meterNoneRow.holds Try.pinned (OpenSpec.ofChange meterNoneSpec)

/-- ITS FALSE NEIGHBOUR: 'it returns false'. Refute it at one input. -/
def meterNoneWrong : ChangeSpec := { name := "meterNone", fn := fun _ => fun
  | [d1, d2] => { results := [.lit (.bool false)], args := [d1, d2] }
  | _ => none }
def MeterNoneWrongFalsely : Prop := meterNoneRow.holds Try.pinned (OpenSpec.ofChange meterNoneWrong)

/-- 'herbariumlaw02.CrcAny': WHATEVER THE INPUT: true; the input reads as it did. -/
def crcAnySpec : ChangeSpec := { name := "crcAny", fn := fun _ => fun
  | [d] => { results := [.lit (.bool true)], args := [d] }
  | _ => none }
def crcAnyRow : OpenClaim := { program := "ythemincohmgihaa", sum := "8fa64230b2a8feeffa096829d73631b7c6d4161ff0ea51ab204730b56e8d4de0", func := "herbarium/herbariumlaw02.CrcAny", spec := "crcAny", apart := false }
def CrcAnySaid : Prop := crcAnyRow.holds Try.pinned (OpenSpec.ofChange crcAnySpec)

/-- ITS FALSE NEIGHBOUR: 'it returns false'. Refute it at one input. -/
def crcAnyWrong : ChangeSpec := { name := "crcAny", fn := fun _ => fun
  | [d] => { results := [.lit (.bool false)], args := [d] }
  | _ => none }
def CrcAnyWrongFalsely : Prop := crcAnyRow.holds Try.pinned (OpenSpec.ofChange crcAnyWrong)

/-- 'herbariumlaw02.CrcSums': WHATEVER THE INPUT: true; the input reads as it did. -/
def crcSumsSpec : ChangeSpec := { name := "crcSums", fn := fun _ => fun
  | [d1, d2, d3] => { results := [.lit (.bool true)], args := [d1, d2, d3] }
  | _ => none }
def crcSumsRow : OpenClaim := { program := "ythemincohmgihaa", sum := "8fa64230b2a8feeffa096829d73631b7c6d4161ff0ea51ab204730b56e8d4de0", func := "herbarium/herbariumlaw02.CrcSums", spec := "crcSums", apart := false }
def CrcSumsSaid : Prop := crcSumsRow.holds Try.pinned (OpenSpec.ofChange crcSumsSpec)

/-- ITS FALSE NEIGHBOUR: 'it returns false'. Refute it at one input. -/
def crcSumsWrong : ChangeSpec := { name := "crcSums", fn := fun _ => fun
  | [d1, d2, d3] => { results := [.lit (.bool false)], args := [d1, d2, d3] }
  | _ => none }
def CrcSumsWrongFalsely : Prop := crcSumsRow.holds Try.pinned (OpenSpec.ofChange crcSumsWrong)

/-- 'herbariumlaw02.CrcBursts': WHATEVER THE INPUT: true; the input reads as it did. -/
def crcBurstsSpec : ChangeSpec := { name := "crcBursts", fn := fun _ => fun
  | [d1, d2, d3] => { results := [.lit (.bool true)], args := [d1, d2, d3] }
  | _ => none }
def crcBurstsRow : OpenClaim := { program := "ythemincohmgihaa", sum := "8fa64230b2a8feeffa096829d73631b7c6d4161ff0ea51ab204730b56e8d4de0", func := "herbarium/herbariumlaw02.CrcBursts", spec := "crcBursts", apart := false }
def CrcBurstsSaid : Prop := crcBurstsRow.holds Try.pinned (OpenSpec.ofChange crcBurstsSpec)

/-- ITS FALSE NEIGHBOUR: 'it returns false'. Refute it at one input. -/
def crcBurstsWrong : ChangeSpec := { name := "crcBursts", fn := fun _ => fun
  | [d1, d2, d3] => { results := [.lit (.bool false)], args := [d1, d2, d3] }
  | _ => none }
def CrcBurstsWrongFalsely : Prop := crcBurstsRow.holds Try.pinned (OpenSpec.ofChange crcBurstsWrong)

/-- 'herbariumlaw15.CmsAdds': WHATEVER THE INPUT: true; the input reads as it did. -/
def cmsAddsSpec : ChangeSpec := { name := "cmsAdds", fn := fun _ => fun
  | [d1, d2, d3, d4] => { results := [.lit (.bool true)], args := [d1, d2, d3, d4] }
  | _ => none }
def cmsAddsRow : OpenClaim := { program := "ythemincohmgihaa", sum := "8fa64230b2a8feeffa096829d73631b7c6d4161ff0ea51ab204730b56e8d4de0", func := "herbarium/herbariumlaw15.CmsAdds", spec := "cmsAdds", apart := false }
def CmsAddsSaid : Prop := cmsAddsRow.holds Try.pinned (OpenSpec.ofChange cmsAddsSpec)

/-- ITS FALSE NEIGHBOUR: 'it returns false'. Refute it at one input. -/
def cmsAddsWrong : ChangeSpec := { name := "cmsAdds", fn := fun _ => fun
  | [d1, d2, d3, d4] => { results := [.lit (.bool false)], args := [d1, d2, d3, d4] }
  | _ => none }
def CmsAddsWrongFalsely : Prop := cmsAddsRow.holds Try.pinned (OpenSpec.ofChange cmsAddsWrong)

/-- 'herbariumlaw15.CmsChecks': WHATEVER THE INPUT: true; the input reads as it did. -/
def cmsChecksSpec : ChangeSpec := { name := "cmsChecks", fn := fun _ => fun
  | [d1, d2, d3, d4, d5] => { results := [.lit (.bool true)], args := [d1, d2, d3, d4, d5] }
  | _ => none }
def cmsChecksRow : OpenClaim := { program := "ythemincohmgihaa", sum := "8fa64230b2a8feeffa096829d73631b7c6d4161ff0ea51ab204730b56e8d4de0", func := "herbarium/herbariumlaw15.CmsChecks", spec := "cmsChecks", apart := false }
def CmsChecksSaid : Prop := cmsChecksRow.holds Try.pinned (OpenSpec.ofChange cmsChecksSpec)

/-- ITS FALSE NEIGHBOUR: 'it returns false'. Refute it at one input. -/
def cmsChecksWrong : ChangeSpec := { name := "cmsChecks", fn := fun _ => fun
  | [d1, d2, d3, d4, d5] => { results := [.lit (.bool false)], args := [d1, d2, d3, d4, d5] }
  | _ => none }
def CmsChecksWrongFalsely : Prop := cmsChecksRow.holds Try.pinned (OpenSpec.ofChange cmsChecksWrong)

/-- 'herbariumlaw15.CmsMerges': WHATEVER THE INPUT: true; the input reads as it did. -/
def cmsMergesSpec : ChangeSpec := { name := "cmsMerges", fn := fun _ => fun
  | [d1, d2, d3, d4] => { results := [.lit (.bool true)], args := [d1, d2, d3, d4] }
  | _ => none }
def cmsMergesRow : OpenClaim := { program := "ythemincohmgihaa", sum := "8fa64230b2a8feeffa096829d73631b7c6d4161ff0ea51ab204730b56e8d4de0", func := "herbarium/herbariumlaw15.CmsMerges", spec := "cmsMerges", apart := false }
def CmsMergesSaid : Prop := cmsMergesRow.holds Try.pinned (OpenSpec.ofChange cmsMergesSpec)

/-- ITS FALSE NEIGHBOUR: 'it returns false'. Refute it at one input. -/
def cmsMergesWrong : ChangeSpec := { name := "cmsMerges", fn := fun _ => fun
  | [d1, d2, d3, d4] => { results := [.lit (.bool false)], args := [d1, d2, d3, d4] }
  | _ => none }
def CmsMergesWrongFalsely : Prop := cmsMergesRow.holds Try.pinned (OpenSpec.ofChange cmsMergesWrong)

/-- 'herbariumlaw15.CmsSplits': WHATEVER THE INPUT: true; the input reads as it did. -/
def cmsSplitsSpec : ChangeSpec := { name := "cmsSplits", fn := fun _ => fun
  | [d1, d2, d3, d4, d5, d6] => { results := [.lit (.bool true)], args := [d1, d2, d3, d4, d5, d6] }
  | _ => none }
def cmsSplitsRow : OpenClaim := { program := "ythemincohmgihaa", sum := "8fa64230b2a8feeffa096829d73631b7c6d4161ff0ea51ab204730b56e8d4de0", func := "herbarium/herbariumlaw15.CmsSplits", spec := "cmsSplits", apart := false }
def CmsSplitsSaid : Prop := cmsSplitsRow.holds Try.pinned (OpenSpec.ofChange cmsSplitsSpec)

/-- ITS FALSE NEIGHBOUR: 'it returns false'. Refute it at one input. -/
def cmsSplitsWrong : ChangeSpec := { name := "cmsSplits", fn := fun _ => fun
  | [d1, d2, d3, d4, d5, d6] => { results := [.lit (.bool false)], args := [d1, d2, d3, d4, d5, d6] }
  | _ => none }
def CmsSplitsWrongFalsely : Prop := cmsSplitsRow.holds Try.pinned (OpenSpec.ofChange cmsSplitsWrong)

/- THE SECOND FORM. 'bulk': how many values and letters a reading holds, each counted each time it is reached (what is shared counts as often as it is met; a slice's spare places count too). A statement '..UptoSaid' is the law's where the arguments, and the package variables that the reading takes, are together of bulk at most 1048576: NARROWER than '..Said'. Prove '..Said' where nothing that the law and all that it calls make is longer than what came in: it says more and counts as full. Else prove '..UptoSaid'. A law counts once. -/
mutual
def uptoBulk {H : Type} : DataW H → Nat
  | .lit (.string bytes) => bytes.length + 1
  | .lit _ => 1
  | .nil => 1
  | .ptr d => uptoBulk d + 1
  | .slice elems spare => uptoBulkAll elems + uptoBulkAll spare + 1
  | .agg parts => uptoBulkAll parts + 1
  | .iface _ d => uptoBulk d + 1
  | .map entries => uptoBulkEntries entries + 1
  | .held _ => 1
def uptoBulkAll {H : Type} : List (DataW H) → Nat
  | [] => 0
  | d :: r => uptoBulk d + uptoBulkAll r
def uptoBulkEntries {H : Type} : List (Lit × DataW H) → Nat
  | [] => 0
  | x :: r => uptoBulkEntry x + uptoBulkEntries r
def uptoBulkEntry {H : Type} : Lit × DataW H → Nat
  | (.string bytes, d) => bytes.length + uptoBulk d + 1
  | (_, d) => uptoBulk d + 1
 end
def uptoSmall : (H : Type) → List (DataW H) → Bool := fun _ ds => decide (uptoBulkAll ds ≤ 1048576)
def OpenSpec.upto (s : _root_.Go.ChangeSpec) : _root_.Go.OpenSpec := { _root_.Go.OpenSpec.ofChange s with cond := some uptoSmall }

/-- 'herbariumlaw15.CmsPlus', WHERE WHAT IT READS IS OF BULK AT MOST 1048576: true; the input reads as it did. -/
def cmsPlusUptoRow : OpenClaim := { program := "ythemincohmgihaa", sum := "8fa64230b2a8feeffa096829d73631b7c6d4161ff0ea51ab204730b56e8d4de0", func := "herbarium/herbariumlaw15.CmsPlus", spec := "cmsPlus", apart := false, narrowed := true }
def CmsPlusUptoSaid : Prop := cmsPlusUptoRow.holds Try.pinned (OpenSpec.upto cmsPlusSpec)

/-- 'herbariumlaw03.MeterSplits', WHERE WHAT IT READS IS OF BULK AT MOST 1048576: true; the input reads as it did. -/
def meterSplitsUptoRow : OpenClaim := { program := "ythemincohmgihaa", sum := "8fa64230b2a8feeffa096829d73631b7c6d4161ff0ea51ab204730b56e8d4de0", func := "herbarium/herbariumlaw03.MeterSplits", spec := "meterSplits", apart := false, narrowed := true }
def MeterSplitsUptoSaid : Prop := meterSplitsUptoRow.holds Try.pinned (OpenSpec.upto meterSplitsSpec)

/-- 'herbariumlaw02.CrcMixes', WHERE WHAT IT READS IS OF BULK AT MOST 1048576: true; the input reads as it did. -/
def crcMixesUptoRow : OpenClaim := { program := "ythemincohmgihaa", sum := "8fa64230b2a8feeffa096829d73631b7c6d4161ff0ea51ab204730b56e8d4de0", func := "herbarium/herbariumlaw02.CrcMixes", spec := "crcMixes", apart := false, narrowed := true }
def CrcMixesUptoSaid : Prop := crcMixesUptoRow.holds Try.pinned (OpenSpec.upto crcMixesSpec)

/-- 'herbariumlaw03.MeterTakes', WHERE WHAT IT READS IS OF BULK AT MOST 1048576: true; the input reads as it did. -/
def meterTakesUptoRow : OpenClaim := { program := "ythemincohmgihaa", sum := "8fa64230b2a8feeffa096829d73631b7c6d4161ff0ea51ab204730b56e8d4de0", func := "herbarium/herbariumlaw03.MeterTakes", spec := "meterTakes", apart := false, narrowed := true }
def MeterTakesUptoSaid : Prop := meterTakesUptoRow.holds Try.pinned (OpenSpec.upto meterTakesSpec)

/-- 'herbariumlaw03.MeterNone', WHERE WHAT IT READS IS OF BULK AT MOST 1048576: true; the input reads as it did. -/
def meterNoneUptoRow : OpenClaim := { program := "ythemincohmgihaa", sum := "8fa64230b2a8feeffa096829d73631b7c6d4161ff0ea51ab204730b56e8d4de0", func := "herbarium/herbariumlaw03.MeterNone", spec := "meterNone", apart := false, narrowed := true }
def MeterNoneUptoSaid : Prop := meterNoneUptoRow.holds Try.pinned (OpenSpec.upto meterNoneSpec)

/-- 'herbariumlaw02.CrcAny', WHERE WHAT IT READS IS OF BULK AT MOST 1048576: true; the input reads as it did. -/
def crcAnyUptoRow : OpenClaim := { program := "ythemincohmgihaa", sum := "8fa64230b2a8feeffa096829d73631b7c6d4161ff0ea51ab204730b56e8d4de0", func := "herbarium/herbariumlaw02.CrcAny", spec := "crcAny", apart := false, narrowed := true }
def CrcAnyUptoSaid : Prop := crcAnyUptoRow.holds Try.pinned (OpenSpec.upto crcAnySpec)

/-- 'herbariumlaw02.CrcSums', WHERE WHAT IT READS IS OF BULK AT MOST 1048576: true; the input reads as it did. -/
def crcSumsUptoRow : OpenClaim := { program := "ythemincohmgihaa", sum := "8fa64230b2a8feeffa096829d73631b7c6d4161ff0ea51ab204730b56e8d4de0", func := "herbarium/herbariumlaw02.CrcSums", spec := "crcSums", apart := false, narrowed := true }
def CrcSumsUptoSaid : Prop := crcSumsUptoRow.holds Try.pinned (OpenSpec.upto crcSumsSpec)

/-- 'herbariumlaw02.CrcBursts', WHERE WHAT IT READS IS OF BULK AT MOST 1048576: true; the input reads as it did. -/
def crcBurstsUptoRow : OpenClaim := { program := "ythemincohmgihaa", sum := "8fa64230b2a8feeffa096829d73631b7c6d4161ff0ea51ab204730b56e8d4de0", func := "herbarium/herbariumlaw02.CrcBursts", spec := "crcBursts", apart := false, narrowed := true }
def CrcBurstsUptoSaid : Prop := crcBurstsUptoRow.holds Try.pinned (OpenSpec.upto crcBurstsSpec)

/-- 'herbariumlaw15.CmsAdds', WHERE WHAT IT READS IS OF BULK AT MOST 1048576: true; the input reads as it did. -/
def cmsAddsUptoRow : OpenClaim := { program := "ythemincohmgihaa", sum := "8fa64230b2a8feeffa096829d73631b7c6d4161ff0ea51ab204730b56e8d4de0", func := "herbarium/herbariumlaw15.CmsAdds", spec := "cmsAdds", apart := false, narrowed := true }
def CmsAddsUptoSaid : Prop := cmsAddsUptoRow.holds Try.pinned (OpenSpec.upto cmsAddsSpec)

/-- 'herbariumlaw15.CmsChecks', WHERE WHAT IT READS IS OF BULK AT MOST 1048576: true; the input reads as it did. -/
def cmsChecksUptoRow : OpenClaim := { program := "ythemincohmgihaa", sum := "8fa64230b2a8feeffa096829d73631b7c6d4161ff0ea51ab204730b56e8d4de0", func := "herbarium/herbariumlaw15.CmsChecks", spec := "cmsChecks", apart := false, narrowed := true }
def CmsChecksUptoSaid : Prop := cmsChecksUptoRow.holds Try.pinned (OpenSpec.upto cmsChecksSpec)

/-- 'herbariumlaw15.CmsMerges', WHERE WHAT IT READS IS OF BULK AT MOST 1048576: true; the input reads as it did. -/
def cmsMergesUptoRow : OpenClaim := { program := "ythemincohmgihaa", sum := "8fa64230b2a8feeffa096829d73631b7c6d4161ff0ea51ab204730b56e8d4de0", func := "herbarium/herbariumlaw15.CmsMerges", spec := "cmsMerges", apart := false, narrowed := true }
def CmsMergesUptoSaid : Prop := cmsMergesUptoRow.holds Try.pinned (OpenSpec.upto cmsMergesSpec)

/-- 'herbariumlaw15.CmsSplits', WHERE WHAT IT READS IS OF BULK AT MOST 1048576: true; the input reads as it did. -/
def cmsSplitsUptoRow : OpenClaim := { program := "ythemincohmgihaa", sum := "8fa64230b2a8feeffa096829d73631b7c6d4161ff0ea51ab204730b56e8d4de0", func := "herbarium/herbariumlaw15.CmsSplits", spec := "cmsSplits", apart := false, narrowed := true }
def CmsSplitsUptoSaid : Prop := cmsSplitsUptoRow.holds Try.pinned (OpenSpec.upto cmsSplitsSpec)

end Rows
end Go.Proofs.Ythemincohmgihaa
