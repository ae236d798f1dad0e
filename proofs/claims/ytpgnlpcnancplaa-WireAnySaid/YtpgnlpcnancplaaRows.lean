/-
  No cell of these rows narrows 'for every input' (looked for: loops, veiled, ifaces, maps, wideKeys, modest, calm, conditions, laid).
  DERIVED. THE GIVEN ROWS OF THIS SEAT. 8 by the template 'for every input the law returns true; each argument reads behind the call as it read before'; 0 by the template 'total and deterministic' (their statements: YtpgnlpcnancplaaTotals.lean).
  GIVEN WITH THE SEED: the statements are not yours to turn. If you find one false, say at which input.
  Laid BY PROGRAM, IN A SANDBOX (cutbox-rows.mjs): the forced cells as the released guide's own fill.sh prints them over the translation 53ea70fcae319462… (all of the seat's roots in one cut). By AI agents, Wed Nov 11 2026. No macro, syntax, notation, axiom, sorry.
-/
import Derived.Test.YtpgnlpcnancplaaChecked
import GoSem.Claim
import GoSem.ClaimJoined
import GoSem.ClaimMapViews
import Derived.JoinedTies
import Derived.KernelRfl
namespace Go.Proofs.Ytpgnlpcnancplaa
/- THE CELL 'sum', in the pinned program and in every row, IS THE sha256 OF THE DUMP (.gsa) THAT YtpgnlpcnancplaaProg.lean LOADS. Nothing in Lean hashes anything: it is a label: what it is worth is what the hold of that sum in a sandbox is worth. -/
noncomputable def Try.pinned : Pinned := { name := "ytpgnlpcnancplaa", sum := "53ea70fcae31946203eee0f5f510660c1135e380c9332bd42011b93b21e1937a", checked := Try.checked }
namespace Rows
def none {H : Type} : Left H := { results := [], args := [] }

/-- 'herbariumlaw01.WireGrows': WHATEVER THE INPUT: true; the input reads as it did. -/
def wireGrowsSpec : ChangeSpec := { name := "wireGrows", fn := fun _ => fun
  | [d1, d2, d3] => { results := [.lit (.bool true)], args := [d1, d2, d3] }
  | _ => none }
def wireGrowsRow : OpenClaim := { program := "ytpgnlpcnancplaa", sum := "53ea70fcae31946203eee0f5f510660c1135e380c9332bd42011b93b21e1937a", func := "herbarium/herbariumlaw01.WireGrows", spec := "wireGrows", unfollowed := true, recurses := true, apart := false }
def WireGrowsSaid : Prop := wireGrowsRow.holds Try.pinned (OpenSpec.ofChange wireGrowsSpec)

/-- ITS FALSE NEIGHBOUR: 'it returns false'. Refute it at one input. -/
def wireGrowsWrong : ChangeSpec := { name := "wireGrows", fn := fun _ => fun
  | [d1, d2, d3] => { results := [.lit (.bool false)], args := [d1, d2, d3] }
  | _ => none }
def WireGrowsWrongFalsely : Prop := wireGrowsRow.holds Try.pinned (OpenSpec.ofChange wireGrowsWrong)

/-- 'herbariumlaw04.BitsSplits': WHATEVER THE INPUT: true; the input reads as it did. -/
def bitsSplitsSpec : ChangeSpec := { name := "bitsSplits", fn := fun _ => fun
  | [d1, d2, d3, d4] => { results := [.lit (.bool true)], args := [d1, d2, d3, d4] }
  | _ => none }
def bitsSplitsRow : OpenClaim := { program := "ytpgnlpcnancplaa", sum := "53ea70fcae31946203eee0f5f510660c1135e380c9332bd42011b93b21e1937a", func := "herbarium/herbariumlaw04.BitsSplits", spec := "bitsSplits", apart := false }
def BitsSplitsSaid : Prop := bitsSplitsRow.holds Try.pinned (OpenSpec.ofChange bitsSplitsSpec)

/-- ITS FALSE NEIGHBOUR: 'it returns false'. Refute it at one input. -/
def bitsSplitsWrong : ChangeSpec := { name := "bitsSplits", fn := fun _ => fun
  | [d1, d2, d3, d4] => { results := [.lit (.bool false)], args := [d1, d2, d3, d4] }
  | _ => none }
def BitsSplitsWrongFalsely : Prop := bitsSplitsRow.holds Try.pinned (OpenSpec.ofChange bitsSplitsWrong)

/-- 'herbariumlaw04.BitsUnary': WHATEVER THE INPUT: true; the input reads as it did. -/
def bitsUnarySpec : ChangeSpec := { name := "bitsUnary", fn := fun _ => fun
  | [d1, d2] => { results := [.lit (.bool true)], args := [d1, d2] }
  | _ => none }
def bitsUnaryRow : OpenClaim := { program := "ytpgnlpcnancplaa", sum := "53ea70fcae31946203eee0f5f510660c1135e380c9332bd42011b93b21e1937a", func := "herbarium/herbariumlaw04.BitsUnary", spec := "bitsUnary", apart := false }
def BitsUnarySaid : Prop := bitsUnaryRow.holds Try.pinned (OpenSpec.ofChange bitsUnarySpec)

/-- ITS FALSE NEIGHBOUR: 'it returns false'. Refute it at one input. -/
def bitsUnaryWrong : ChangeSpec := { name := "bitsUnary", fn := fun _ => fun
  | [d1, d2] => { results := [.lit (.bool false)], args := [d1, d2] }
  | _ => none }
def BitsUnaryWrongFalsely : Prop := bitsUnaryRow.holds Try.pinned (OpenSpec.ofChange bitsUnaryWrong)

/-- 'herbariumlaw01.WireJoins': WHATEVER THE INPUT: true; the input reads as it did. -/
def wireJoinsSpec : ChangeSpec := { name := "wireJoins", fn := fun _ => fun
  | [d1, d2, d3] => { results := [.lit (.bool true)], args := [d1, d2, d3] }
  | _ => none }
def wireJoinsRow : OpenClaim := { program := "ytpgnlpcnancplaa", sum := "53ea70fcae31946203eee0f5f510660c1135e380c9332bd42011b93b21e1937a", func := "herbarium/herbariumlaw01.WireJoins", spec := "wireJoins", apart := false }
def WireJoinsSaid : Prop := wireJoinsRow.holds Try.pinned (OpenSpec.ofChange wireJoinsSpec)

/-- ITS FALSE NEIGHBOUR: 'it returns false'. Refute it at one input. -/
def wireJoinsWrong : ChangeSpec := { name := "wireJoins", fn := fun _ => fun
  | [d1, d2, d3] => { results := [.lit (.bool false)], args := [d1, d2, d3] }
  | _ => none }
def WireJoinsWrongFalsely : Prop := wireJoinsRow.holds Try.pinned (OpenSpec.ofChange wireJoinsWrong)

/-- 'herbariumlaw04.BitsBack': WHATEVER THE INPUT: true; the input reads as it did. -/
def bitsBackSpec : ChangeSpec := { name := "bitsBack", fn := fun _ => fun
  | [d] => { results := [.lit (.bool true)], args := [d] }
  | _ => none }
def bitsBackRow : OpenClaim := { program := "ytpgnlpcnancplaa", sum := "53ea70fcae31946203eee0f5f510660c1135e380c9332bd42011b93b21e1937a", func := "herbarium/herbariumlaw04.BitsBack", spec := "bitsBack", apart := false }
def BitsBackSaid : Prop := bitsBackRow.holds Try.pinned (OpenSpec.ofChange bitsBackSpec)

/-- ITS FALSE NEIGHBOUR: 'it returns false'. Refute it at one input. -/
def bitsBackWrong : ChangeSpec := { name := "bitsBack", fn := fun _ => fun
  | [d] => { results := [.lit (.bool false)], args := [d] }
  | _ => none }
def BitsBackWrongFalsely : Prop := bitsBackRow.holds Try.pinned (OpenSpec.ofChange bitsBackWrong)

/-- 'herbariumlaw01.WireAny': WHATEVER THE INPUT: true; the input reads as it did. -/
def wireAnySpec : ChangeSpec := { name := "wireAny", fn := fun _ => fun
  | [d1, d2, d3, d4] => { results := [.lit (.bool true)], args := [d1, d2, d3, d4] }
  | _ => none }
def wireAnyRow : OpenClaim := { program := "ytpgnlpcnancplaa", sum := "53ea70fcae31946203eee0f5f510660c1135e380c9332bd42011b93b21e1937a", func := "herbarium/herbariumlaw01.WireAny", spec := "wireAny", apart := false }
def WireAnySaid : Prop := wireAnyRow.holds Try.pinned (OpenSpec.ofChange wireAnySpec)

/-- ITS FALSE NEIGHBOUR: 'it returns false'. Refute it at one input. -/
def wireAnyWrong : ChangeSpec := { name := "wireAny", fn := fun _ => fun
  | [d1, d2, d3, d4] => { results := [.lit (.bool false)], args := [d1, d2, d3, d4] }
  | _ => none }
def WireAnyWrongFalsely : Prop := wireAnyRow.holds Try.pinned (OpenSpec.ofChange wireAnyWrong)

/-- 'herbariumlaw01.WireBack': WHATEVER THE INPUT: true; the input reads as it did. -/
def wireBackSpec : ChangeSpec := { name := "wireBack", fn := fun _ => fun
  | [d1, d2, d3, d4] => { results := [.lit (.bool true)], args := [d1, d2, d3, d4] }
  | _ => none }
def wireBackRow : OpenClaim := { program := "ytpgnlpcnancplaa", sum := "53ea70fcae31946203eee0f5f510660c1135e380c9332bd42011b93b21e1937a", func := "herbarium/herbariumlaw01.WireBack", spec := "wireBack", apart := false }
def WireBackSaid : Prop := wireBackRow.holds Try.pinned (OpenSpec.ofChange wireBackSpec)

/-- ITS FALSE NEIGHBOUR: 'it returns false'. Refute it at one input. -/
def wireBackWrong : ChangeSpec := { name := "wireBack", fn := fun _ => fun
  | [d1, d2, d3, d4] => { results := [.lit (.bool false)], args := [d1, d2, d3, d4] }
  | _ => none }
def WireBackWrongFalsely : Prop := wireBackRow.holds Try.pinned (OpenSpec.ofChange wireBackWrong)

/-- 'herbariumlaw01.WireErrors': WHATEVER THE INPUT: true; the input reads as it did. -/
def wireErrorsSpec : ChangeSpec := { name := "wireErrors", fn := fun _ => fun
  | [d1, d2] => { results := [.lit (.bool true)], args := [d1, d2] }
  | _ => none }
def wireErrorsRow : OpenClaim := { program := "ytpgnlpcnancplaa", sum := "53ea70fcae31946203eee0f5f510660c1135e380c9332bd42011b93b21e1937a", func := "herbarium/herbariumlaw01.WireErrors", spec := "wireErrors", apart := false }
def WireErrorsSaid : Prop := wireErrorsRow.holds Try.pinned (OpenSpec.ofChange wireErrorsSpec)

/-- ITS FALSE NEIGHBOUR: 'it returns false'. Refute it at one input. -/
def wireErrorsWrong : ChangeSpec := { name := "wireErrors", fn := fun _ => fun
  | [d1, d2] => { results := [.lit (.bool false)], args := [d1, d2] }
  | _ => none }
def WireErrorsWrongFalsely : Prop := wireErrorsRow.holds Try.pinned (OpenSpec.ofChange wireErrorsWrong)

/- THE SECOND FORM. 'bulk': how many values and letters a reading holds, each counted each time it is reached (what is shared counts as often as it is met; a slice's spare places count too). A statement '..UptoSaid' is the law's where the arguments, and the package variables that the reading takes, are together of bulk at most 1048576: NARROWER than '..Said'. Prove '..Said' where nothing that the law and all that it calls make is longer than what came in: it says more and counts as full. Else prove '..UptoSaid'. A law counts once. -/
mutual
def uptoBulk {H : Type} : DataW H → Nat
  | .lit (.string bytes) => bytes.length + 1
  | .lit _ => 1
  | .nil => 1
  | .ptr d => uptoBulk d + 1
  | .slice elems spare => uptoBulkAll elems + uptoBulkAll spare + 1
  | .agg parts => uptoBulkAll parts + 1
  | .iface _ d => uptoBulk d + 1
  | .map entries => uptoBulkEntries entries + 1
  | .held _ => 1
def uptoBulkAll {H : Type} : List (DataW H) → Nat
  | [] => 0
  | d :: r => uptoBulk d + uptoBulkAll r
def uptoBulkEntries {H : Type} : List (Lit × DataW H) → Nat
  | [] => 0
  | x :: r => uptoBulkEntry x + uptoBulkEntries r
def uptoBulkEntry {H : Type} : Lit × DataW H → Nat
  | (.string bytes, d) => bytes.length + uptoBulk d + 1
  | (_, d) => uptoBulk d + 1
 end
def uptoSmall : (H : Type) → List (DataW H) → Bool := fun _ ds => decide (uptoBulkAll ds ≤ 1048576)
def OpenSpec.upto (s : _root_.Go.ChangeSpec) : _root_.Go.OpenSpec := { _root_.Go.OpenSpec.ofChange s with cond := some uptoSmall }

/-- 'herbariumlaw01.WireGrows', WHERE WHAT IT READS IS OF BULK AT MOST 1048576: true; the input reads as it did. -/
def wireGrowsUptoRow : OpenClaim := { program := "ytpgnlpcnancplaa", sum := "53ea70fcae31946203eee0f5f510660c1135e380c9332bd42011b93b21e1937a", func := "herbarium/herbariumlaw01.WireGrows", spec := "wireGrows", unfollowed := true, recurses := true, apart := false, narrowed := true }
def WireGrowsUptoSaid : Prop := wireGrowsUptoRow.holds Try.pinned (OpenSpec.upto wireGrowsSpec)

/-- 'herbariumlaw04.BitsSplits', WHERE WHAT IT READS IS OF BULK AT MOST 1048576: true; the input reads as it did. -/
def bitsSplitsUptoRow : OpenClaim := { program := "ytpgnlpcnancplaa", sum := "53ea70fcae31946203eee0f5f510660c1135e380c9332bd42011b93b21e1937a", func := "herbarium/herbariumlaw04.BitsSplits", spec := "bitsSplits", apart := false, narrowed := true }
def BitsSplitsUptoSaid : Prop := bitsSplitsUptoRow.holds Try.pinned (OpenSpec.upto bitsSplitsSpec)

/-- 'herbariumlaw04.BitsUnary', WHERE WHAT IT READS IS OF BULK AT MOST 1048576: true; the input reads as it did. -/
def bitsUnaryUptoRow : OpenClaim := { program := "ytpgnlpcnancplaa", sum := "53ea70fcae31946203eee0f5f510660c1135e380c9332bd42011b93b21e1937a", func := "herbarium/herbariumlaw04.BitsUnary", spec := "bitsUnary", apart := false, narrowed := true }
def BitsUnaryUptoSaid : Prop := bitsUnaryUptoRow.holds Try.pinned (OpenSpec.upto bitsUnarySpec)

/-- 'herbariumlaw01.WireJoins', WHERE WHAT IT READS IS OF BULK AT MOST 1048576: true; the input reads as it did. -/
def wireJoinsUptoRow : OpenClaim := { program := "ytpgnlpcnancplaa", sum := "53ea70fcae31946203eee0f5f510660c1135e380c9332bd42011b93b21e1937a", func := "herbarium/herbariumlaw01.WireJoins", spec := "wireJoins", apart := false, narrowed := true }
def WireJoinsUptoSaid : Prop := wireJoinsUptoRow.holds Try.pinned (OpenSpec.upto wireJoinsSpec)

/-- 'herbariumlaw04.BitsBack', WHERE WHAT IT READS IS OF BULK AT MOST 1048576: true; the input reads as it did. -/
def bitsBackUptoRow : OpenClaim := { program := "ytpgnlpcnancplaa", sum := "53ea70fcae31946203eee0f5f510660c1135e380c9332bd42011b93b21e1937a", func := "herbarium/herbariumlaw04.BitsBack", spec := "bitsBack", apart := false, narrowed := true }
def BitsBackUptoSaid : Prop := bitsBackUptoRow.holds Try.pinned (OpenSpec.upto bitsBackSpec)

/-- 'herbariumlaw01.WireAny', WHERE WHAT IT READS IS OF BULK AT MOST 1048576: true; the input reads as it did. -/
def wireAnyUptoRow : OpenClaim := { program := "ytpgnlpcnancplaa", sum := "53ea70fcae31946203eee0f5f510660c1135e380c9332bd42011b93b21e1937a", func := "herbarium/herbariumlaw01.WireAny", spec := "wireAny", apart := false, narrowed := true }
def WireAnyUptoSaid : Prop := wireAnyUptoRow.holds Try.pinned (OpenSpec.upto wireAnySpec)

/-- 'herbariumlaw01.WireBack', WHERE WHAT IT READS IS OF BULK AT MOST 1048576: true; the input reads as it did. -/
def wireBackUptoRow : OpenClaim := { program := "ytpgnlpcnancplaa", sum := "53ea70fcae31946203eee0f5f510660c1135e380c9332bd42011b93b21e1937a", func := "herbarium/herbariumlaw01.WireBack", spec := "wireBack", apart := false, narrowed := true }
def WireBackUptoSaid : Prop := wireBackUptoRow.holds Try.pinned (OpenSpec.upto wireBackSpec)

/-- 'herbariumlaw01.WireErrors', WHERE WHAT IT READS IS OF BULK AT MOST 1048576: true; the input reads as it did. -/
def wireErrorsUptoRow : OpenClaim := { program := "ytpgnlpcnancplaa", sum := "53ea70fcae31946203eee0f5f510660c1135e380c9332bd42011b93b21e1937a", func := "herbarium/herbariumlaw01.WireErrors", spec := "wireErrors", apart := false, narrowed := true }
def WireErrorsUptoSaid : Prop := wireErrorsUptoRow.holds Try.pinned (OpenSpec.upto wireErrorsSpec)

end Rows
end Go.Proofs.Ytpgnlpcnancplaa
