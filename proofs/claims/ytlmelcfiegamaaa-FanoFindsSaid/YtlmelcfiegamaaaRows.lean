/-
  No cell of these rows narrows 'for every input' (looked for: loops, veiled, ifaces, maps, wideKeys, modest, calm, conditions, laid).
  DERIVED. THE GIVEN ROWS OF THIS SEAT. 12 by the template 'for every input the law returns true; each argument reads behind the call as it read before'; 0 by the template 'total and deterministic' (their statements: YtlmelcfiegamaaaTotals.lean).
  GIVEN WITH THE SEED: the statements are not yours to turn. If you find one false, say at which input.
  Laid BY PROGRAM, IN A SANDBOX (cutbox-rows.mjs): the forced cells as the released guide's own fill.sh prints them over the translation ecc4fcecf09fff29… (all of the seat's roots in one cut). By AI agents, Wed Nov 11 2026. No macro, syntax, notation, axiom, sorry.
-/
import Derived.Test.YtlmelcfiegamaaaChecked
import GoSem.Claim
import GoSem.ClaimJoined
import GoSem.ClaimMapViews
import Derived.JoinedTies
import Derived.KernelRfl
namespace Go.Proofs.Ytlmelcfiegamaaa
/- THE CELL 'sum', in the pinned program and in every row, IS THE sha256 OF THE DUMP (.gsa) THAT YtlmelcfiegamaaaProg.lean LOADS. Nothing in Lean hashes anything: it is a label: what it is worth is what the hold of that sum in a sandbox is worth. -/
noncomputable def Try.pinned : Pinned := { name := "ytlmelcfiegamaaa", sum := "ecc4fcecf09fff297130024c0065410745738e2f1b7337cf2ef6bf4da7016e92", checked := Try.checked }
namespace Rows
def none {H : Type} : Left H := { results := [], args := [] }

/-- 'herbariumlaw06.FanoSmall': WHATEVER THE INPUT: true; the input reads as it did. -/
def fanoSmallSpec : ChangeSpec := { name := "fanoSmall", fn := fun _ => fun
  | [d1, d2] => { results := [.lit (.bool true)], args := [d1, d2] }
  | _ => none }
def fanoSmallRow : OpenClaim := { program := "ytlmelcfiegamaaa", sum := "ecc4fcecf09fff297130024c0065410745738e2f1b7337cf2ef6bf4da7016e92", func := "herbarium/herbariumlaw06.FanoSmall", spec := "fanoSmall", apart := false }
def FanoSmallSaid : Prop := fanoSmallRow.holds Try.pinned (OpenSpec.ofChange fanoSmallSpec)

/-- ITS FALSE NEIGHBOUR: 'it returns false'. Refute it at one input. -/
def fanoSmallWrong : ChangeSpec := { name := "fanoSmall", fn := fun _ => fun
  | [d1, d2] => { results := [.lit (.bool false)], args := [d1, d2] }
  | _ => none }
def FanoSmallWrongFalsely : Prop := fanoSmallRow.holds Try.pinned (OpenSpec.ofChange fanoSmallWrong)

/-- 'herbariumlaw05.RiceChecks': WHATEVER THE INPUT: true; the input reads as it did. -/
def riceChecksSpec : ChangeSpec := { name := "riceChecks", fn := fun _ => fun
  | [d1, d2] => { results := [.lit (.bool true)], args := [d1, d2] }
  | _ => none }
def riceChecksRow : OpenClaim := { program := "ytlmelcfiegamaaa", sum := "ecc4fcecf09fff297130024c0065410745738e2f1b7337cf2ef6bf4da7016e92", func := "herbarium/herbariumlaw05.RiceChecks", spec := "riceChecks", apart := false }
def RiceChecksSaid : Prop := riceChecksRow.holds Try.pinned (OpenSpec.ofChange riceChecksSpec)

/-- ITS FALSE NEIGHBOUR: 'it returns false'. Refute it at one input. -/
def riceChecksWrong : ChangeSpec := { name := "riceChecks", fn := fun _ => fun
  | [d1, d2] => { results := [.lit (.bool false)], args := [d1, d2] }
  | _ => none }
def RiceChecksWrongFalsely : Prop := riceChecksRow.holds Try.pinned (OpenSpec.ofChange riceChecksWrong)

/-- 'herbariumlaw05.RiceSmall': WHATEVER THE INPUT: true; the input reads as it did. -/
def riceSmallSpec : ChangeSpec := { name := "riceSmall", fn := fun _ => fun
  | [d1, d2, d3, d4] => { results := [.lit (.bool true)], args := [d1, d2, d3, d4] }
  | _ => none }
def riceSmallRow : OpenClaim := { program := "ytlmelcfiegamaaa", sum := "ecc4fcecf09fff297130024c0065410745738e2f1b7337cf2ef6bf4da7016e92", func := "herbarium/herbariumlaw05.RiceSmall", spec := "riceSmall", apart := false }
def RiceSmallSaid : Prop := riceSmallRow.holds Try.pinned (OpenSpec.ofChange riceSmallSpec)

/-- ITS FALSE NEIGHBOUR: 'it returns false'. Refute it at one input. -/
def riceSmallWrong : ChangeSpec := { name := "riceSmall", fn := fun _ => fun
  | [d1, d2, d3, d4] => { results := [.lit (.bool false)], args := [d1, d2, d3, d4] }
  | _ => none }
def RiceSmallWrongFalsely : Prop := riceSmallRow.holds Try.pinned (OpenSpec.ofChange riceSmallWrong)

/-- 'herbariumlaw06.FanoFinds': WHATEVER THE INPUT: true; the input reads as it did. -/
def fanoFindsSpec : ChangeSpec := { name := "fanoFinds", fn := fun _ => fun
  | [d1, d2, d3, d4, d5] => { results := [.lit (.bool true)], args := [d1, d2, d3, d4, d5] }
  | _ => none }
def fanoFindsRow : OpenClaim := { program := "ytlmelcfiegamaaa", sum := "ecc4fcecf09fff297130024c0065410745738e2f1b7337cf2ef6bf4da7016e92", func := "herbarium/herbariumlaw06.FanoFinds", spec := "fanoFinds", apart := false }
def FanoFindsSaid : Prop := fanoFindsRow.holds Try.pinned (OpenSpec.ofChange fanoFindsSpec)

/-- ITS FALSE NEIGHBOUR: 'it returns false'. Refute it at one input. -/
def fanoFindsWrong : ChangeSpec := { name := "fanoFinds", fn := fun _ => fun
  | [d1, d2, d3, d4, d5] => { results := [.lit (.bool false)], args := [d1, d2, d3, d4, d5] }
  | _ => none }
def FanoFindsWrongFalsely : Prop := fanoFindsRow.holds Try.pinned (OpenSpec.ofChange fanoFindsWrong)

/-- 'herbariumlaw06.FanoSteps': WHATEVER THE INPUT: true; the input reads as it did. -/
def fanoStepsSpec : ChangeSpec := { name := "fanoSteps", fn := fun _ => fun
  | [d1, d2, d3, d4, d5] => { results := [.lit (.bool true)], args := [d1, d2, d3, d4, d5] }
  | _ => none }
def fanoStepsRow : OpenClaim := { program := "ytlmelcfiegamaaa", sum := "ecc4fcecf09fff297130024c0065410745738e2f1b7337cf2ef6bf4da7016e92", func := "herbarium/herbariumlaw06.FanoSteps", spec := "fanoSteps", apart := false }
def FanoStepsSaid : Prop := fanoStepsRow.holds Try.pinned (OpenSpec.ofChange fanoStepsSpec)

/-- ITS FALSE NEIGHBOUR: 'it returns false'. Refute it at one input. -/
def fanoStepsWrong : ChangeSpec := { name := "fanoSteps", fn := fun _ => fun
  | [d1, d2, d3, d4, d5] => { results := [.lit (.bool false)], args := [d1, d2, d3, d4, d5] }
  | _ => none }
def FanoStepsWrongFalsely : Prop := fanoStepsRow.holds Try.pinned (OpenSpec.ofChange fanoStepsWrong)

/-- 'herbariumlaw06.FanoRanks': WHATEVER THE INPUT: true; the input reads as it did. -/
def fanoRanksSpec : ChangeSpec := { name := "fanoRanks", fn := fun _ => fun
  | [d1, d2, d3] => { results := [.lit (.bool true)], args := [d1, d2, d3] }
  | _ => none }
def fanoRanksRow : OpenClaim := { program := "ytlmelcfiegamaaa", sum := "ecc4fcecf09fff297130024c0065410745738e2f1b7337cf2ef6bf4da7016e92", func := "herbarium/herbariumlaw06.FanoRanks", spec := "fanoRanks", apart := false }
def FanoRanksSaid : Prop := fanoRanksRow.holds Try.pinned (OpenSpec.ofChange fanoRanksSpec)

/-- ITS FALSE NEIGHBOUR: 'it returns false'. Refute it at one input. -/
def fanoRanksWrong : ChangeSpec := { name := "fanoRanks", fn := fun _ => fun
  | [d1, d2, d3] => { results := [.lit (.bool false)], args := [d1, d2, d3] }
  | _ => none }
def FanoRanksWrongFalsely : Prop := fanoRanksRow.holds Try.pinned (OpenSpec.ofChange fanoRanksWrong)

/-- 'herbariumlaw06.FanoAny': WHATEVER THE INPUT: true; the input reads as it did. -/
def fanoAnySpec : ChangeSpec := { name := "fanoAny", fn := fun _ => fun
  | [d1, d2, d3, d4, d5] => { results := [.lit (.bool true)], args := [d1, d2, d3, d4, d5] }
  | _ => none }
def fanoAnyRow : OpenClaim := { program := "ytlmelcfiegamaaa", sum := "ecc4fcecf09fff297130024c0065410745738e2f1b7337cf2ef6bf4da7016e92", func := "herbarium/herbariumlaw06.FanoAny", spec := "fanoAny", apart := false }
def FanoAnySaid : Prop := fanoAnyRow.holds Try.pinned (OpenSpec.ofChange fanoAnySpec)

/-- ITS FALSE NEIGHBOUR: 'it returns false'. Refute it at one input. -/
def fanoAnyWrong : ChangeSpec := { name := "fanoAny", fn := fun _ => fun
  | [d1, d2, d3, d4, d5] => { results := [.lit (.bool false)], args := [d1, d2, d3, d4, d5] }
  | _ => none }
def FanoAnyWrongFalsely : Prop := fanoAnyRow.holds Try.pinned (OpenSpec.ofChange fanoAnyWrong)

/-- 'herbariumlaw06.FanoPuts': WHATEVER THE INPUT: true; the input reads as it did. -/
def fanoPutsSpec : ChangeSpec := { name := "fanoPuts", fn := fun _ => fun
  | [d1, d2, d3] => { results := [.lit (.bool true)], args := [d1, d2, d3] }
  | _ => none }
def fanoPutsRow : OpenClaim := { program := "ytlmelcfiegamaaa", sum := "ecc4fcecf09fff297130024c0065410745738e2f1b7337cf2ef6bf4da7016e92", func := "herbarium/herbariumlaw06.FanoPuts", spec := "fanoPuts", apart := false }
def FanoPutsSaid : Prop := fanoPutsRow.holds Try.pinned (OpenSpec.ofChange fanoPutsSpec)

/-- ITS FALSE NEIGHBOUR: 'it returns false'. Refute it at one input. -/
def fanoPutsWrong : ChangeSpec := { name := "fanoPuts", fn := fun _ => fun
  | [d1, d2, d3] => { results := [.lit (.bool false)], args := [d1, d2, d3] }
  | _ => none }
def FanoPutsWrongFalsely : Prop := fanoPutsRow.holds Try.pinned (OpenSpec.ofChange fanoPutsWrong)

/-- 'herbariumlaw05.RiceFirst': WHATEVER THE INPUT: true; the input reads as it did. -/
def riceFirstSpec : ChangeSpec := { name := "riceFirst", fn := fun _ => fun
  | [d1, d2, d3] => { results := [.lit (.bool true)], args := [d1, d2, d3] }
  | _ => none }
def riceFirstRow : OpenClaim := { program := "ytlmelcfiegamaaa", sum := "ecc4fcecf09fff297130024c0065410745738e2f1b7337cf2ef6bf4da7016e92", func := "herbarium/herbariumlaw05.RiceFirst", spec := "riceFirst", apart := false }
def RiceFirstSaid : Prop := riceFirstRow.holds Try.pinned (OpenSpec.ofChange riceFirstSpec)

/-- ITS FALSE NEIGHBOUR: 'it returns false'. Refute it at one input. -/
def riceFirstWrong : ChangeSpec := { name := "riceFirst", fn := fun _ => fun
  | [d1, d2, d3] => { results := [.lit (.bool false)], args := [d1, d2, d3] }
  | _ => none }
def RiceFirstWrongFalsely : Prop := riceFirstRow.holds Try.pinned (OpenSpec.ofChange riceFirstWrong)

/-- 'herbariumlaw05.RiceCursors': WHATEVER THE INPUT: true; the input reads as it did. -/
def riceCursorsSpec : ChangeSpec := { name := "riceCursors", fn := fun _ => fun
  | [d1, d2, d3] => { results := [.lit (.bool true)], args := [d1, d2, d3] }
  | _ => none }
def riceCursorsRow : OpenClaim := { program := "ytlmelcfiegamaaa", sum := "ecc4fcecf09fff297130024c0065410745738e2f1b7337cf2ef6bf4da7016e92", func := "herbarium/herbariumlaw05.RiceCursors", spec := "riceCursors", apart := false }
def RiceCursorsSaid : Prop := riceCursorsRow.holds Try.pinned (OpenSpec.ofChange riceCursorsSpec)

/-- ITS FALSE NEIGHBOUR: 'it returns false'. Refute it at one input. -/
def riceCursorsWrong : ChangeSpec := { name := "riceCursors", fn := fun _ => fun
  | [d1, d2, d3] => { results := [.lit (.bool false)], args := [d1, d2, d3] }
  | _ => none }
def RiceCursorsWrongFalsely : Prop := riceCursorsRow.holds Try.pinned (OpenSpec.ofChange riceCursorsWrong)

/-- 'herbariumlaw05.RicePuts': WHATEVER THE INPUT: true; the input reads as it did. -/
def ricePutsSpec : ChangeSpec := { name := "ricePuts", fn := fun _ => fun
  | [d1, d2, d3] => { results := [.lit (.bool true)], args := [d1, d2, d3] }
  | _ => none }
def ricePutsRow : OpenClaim := { program := "ytlmelcfiegamaaa", sum := "ecc4fcecf09fff297130024c0065410745738e2f1b7337cf2ef6bf4da7016e92", func := "herbarium/herbariumlaw05.RicePuts", spec := "ricePuts", apart := false }
def RicePutsSaid : Prop := ricePutsRow.holds Try.pinned (OpenSpec.ofChange ricePutsSpec)

/-- ITS FALSE NEIGHBOUR: 'it returns false'. Refute it at one input. -/
def ricePutsWrong : ChangeSpec := { name := "ricePuts", fn := fun _ => fun
  | [d1, d2, d3] => { results := [.lit (.bool false)], args := [d1, d2, d3] }
  | _ => none }
def RicePutsWrongFalsely : Prop := ricePutsRow.holds Try.pinned (OpenSpec.ofChange ricePutsWrong)

/-- 'herbariumlaw05.RiceAny': WHATEVER THE INPUT: true; the input reads as it did. -/
def riceAnySpec : ChangeSpec := { name := "riceAny", fn := fun _ => fun
  | [d1, d2, d3, d4, d5] => { results := [.lit (.bool true)], args := [d1, d2, d3, d4, d5] }
  | _ => none }
def riceAnyRow : OpenClaim := { program := "ytlmelcfiegamaaa", sum := "ecc4fcecf09fff297130024c0065410745738e2f1b7337cf2ef6bf4da7016e92", func := "herbarium/herbariumlaw05.RiceAny", spec := "riceAny", apart := false }
def RiceAnySaid : Prop := riceAnyRow.holds Try.pinned (OpenSpec.ofChange riceAnySpec)

/-- ITS FALSE NEIGHBOUR: 'it returns false'. Refute it at one input. -/
def riceAnyWrong : ChangeSpec := { name := "riceAny", fn := fun _ => fun
  | [d1, d2, d3, d4, d5] => { results := [.lit (.bool false)], args := [d1, d2, d3, d4, d5] }
  | _ => none }
def RiceAnyWrongFalsely : Prop := riceAnyRow.holds Try.pinned (OpenSpec.ofChange riceAnyWrong)

/- THE SECOND FORM. 'bulk': how many values and letters a reading holds, each counted each time it is reached (what is shared counts as often as it is met; a slice's spare places count too). A statement '..UptoSaid' is the law's where the arguments, and the package variables that the reading takes, are together of bulk at most 1048576: NARROWER than '..Said'. Prove '..Said' where nothing that the law and all that it calls make is longer than what came in: it says more and counts as full. Else prove '..UptoSaid'. A law counts once. -/
mutual
def uptoBulk {H : Type} : DataW H → Nat
  | .lit (.string bytes) => bytes.length + 1
  | .lit _ => 1
  | .nil => 1
  | .ptr d => uptoBulk d + 1
  | .slice elems spare => uptoBulkAll elems + uptoBulkAll spare + 1
  | .agg parts => uptoBulkAll parts + 1
  | .iface _ d => uptoBulk d + 1
  | .map entries => uptoBulkEntries entries + 1
  | .held _ => 1
def uptoBulkAll {H : Type} : List (DataW H) → Nat
  | [] => 0
  | d :: r => uptoBulk d + uptoBulkAll r
def uptoBulkEntries {H : Type} : List (Lit × DataW H) → Nat
  | [] => 0
  | x :: r => uptoBulkEntry x + uptoBulkEntries r
def uptoBulkEntry {H : Type} : Lit × DataW H → Nat
  | (.string bytes, d) => bytes.length + uptoBulk d + 1
  | (_, d) => uptoBulk d + 1
 end
def uptoSmall : (H : Type) → List (DataW H) → Bool := fun _ ds => decide (uptoBulkAll ds ≤ 1048576)
def OpenSpec.upto (s : _root_.Go.ChangeSpec) : _root_.Go.OpenSpec := { _root_.Go.OpenSpec.ofChange s with cond := some uptoSmall }

/-- 'herbariumlaw06.FanoSmall', WHERE WHAT IT READS IS OF BULK AT MOST 1048576: true; the input reads as it did. -/
def fanoSmallUptoRow : OpenClaim := { program := "ytlmelcfiegamaaa", sum := "ecc4fcecf09fff297130024c0065410745738e2f1b7337cf2ef6bf4da7016e92", func := "herbarium/herbariumlaw06.FanoSmall", spec := "fanoSmall", apart := false, narrowed := true }
def FanoSmallUptoSaid : Prop := fanoSmallUptoRow.holds Try.pinned (OpenSpec.upto fanoSmallSpec)

/-- 'herbariumlaw05.RiceChecks', WHERE WHAT IT READS IS OF BULK AT MOST 1048576: true; the input reads as it did. -/
def riceChecksUptoRow : OpenClaim := { program := "ytlmelcfiegamaaa", sum := "ecc4fcecf09fff297130024c0065410745738e2f1b7337cf2ef6bf4da7016e92", func := "herbarium/herbariumlaw05.RiceChecks", spec := "riceChecks", apart := false, narrowed := true }
def RiceChecksUptoSaid : Prop := riceChecksUptoRow.holds Try.pinned (OpenSpec.upto riceChecksSpec)

/-- 'herbariumlaw05.RiceSmall', WHERE WHAT IT READS IS OF BULK AT MOST 1048576: true; the input reads as it did. -/
def riceSmallUptoRow : OpenClaim := { program := "ytlmelcfiegamaaa", sum := "ecc4fcecf09fff297130024c0065410745738e2f1b7337cf2ef6bf4da7016e92", func := "herbarium/herbariumlaw05.RiceSmall", spec := "riceSmall", apart := false, narrowed := true }
def RiceSmallUptoSaid : Prop := riceSmallUptoRow.holds Try.pinned (OpenSpec.upto riceSmallSpec)

/-- 'herbariumlaw06.FanoFinds', WHERE WHAT IT READS IS OF BULK AT MOST 1048576: true; the input reads as it did. -/
def fanoFindsUptoRow : OpenClaim := { program := "ytlmelcfiegamaaa", sum := "ecc4fcecf09fff297130024c0065410745738e2f1b7337cf2ef6bf4da7016e92", func := "herbarium/herbariumlaw06.FanoFinds", spec := "fanoFinds", apart := false, narrowed := true }
def FanoFindsUptoSaid : Prop := fanoFindsUptoRow.holds Try.pinned (OpenSpec.upto fanoFindsSpec)

/-- 'herbariumlaw06.FanoSteps', WHERE WHAT IT READS IS OF BULK AT MOST 1048576: true; the input reads as it did. -/
def fanoStepsUptoRow : OpenClaim := { program := "ytlmelcfiegamaaa", sum := "ecc4fcecf09fff297130024c0065410745738e2f1b7337cf2ef6bf4da7016e92", func := "herbarium/herbariumlaw06.FanoSteps", spec := "fanoSteps", apart := false, narrowed := true }
def FanoStepsUptoSaid : Prop := fanoStepsUptoRow.holds Try.pinned (OpenSpec.upto fanoStepsSpec)

/-- 'herbariumlaw06.FanoRanks', WHERE WHAT IT READS IS OF BULK AT MOST 1048576: true; the input reads as it did. -/
def fanoRanksUptoRow : OpenClaim := { program := "ytlmelcfiegamaaa", sum := "ecc4fcecf09fff297130024c0065410745738e2f1b7337cf2ef6bf4da7016e92", func := "herbarium/herbariumlaw06.FanoRanks", spec := "fanoRanks", apart := false, narrowed := true }
def FanoRanksUptoSaid : Prop := fanoRanksUptoRow.holds Try.pinned (OpenSpec.upto fanoRanksSpec)

/-- 'herbariumlaw06.FanoAny', WHERE WHAT IT READS IS OF BULK AT MOST 1048576: true; the input reads as it did. -/
def fanoAnyUptoRow : OpenClaim := { program := "ytlmelcfiegamaaa", sum := "ecc4fcecf09fff297130024c0065410745738e2f1b7337cf2ef6bf4da7016e92", func := "herbarium/herbariumlaw06.FanoAny", spec := "fanoAny", apart := false, narrowed := true }
def FanoAnyUptoSaid : Prop := fanoAnyUptoRow.holds Try.pinned (OpenSpec.upto fanoAnySpec)

/-- 'herbariumlaw06.FanoPuts', WHERE WHAT IT READS IS OF BULK AT MOST 1048576: true; the input reads as it did. -/
def fanoPutsUptoRow : OpenClaim := { program := "ytlmelcfiegamaaa", sum := "ecc4fcecf09fff297130024c0065410745738e2f1b7337cf2ef6bf4da7016e92", func := "herbarium/herbariumlaw06.FanoPuts", spec := "fanoPuts", apart := false, narrowed := true }
def FanoPutsUptoSaid : Prop := fanoPutsUptoRow.holds Try.pinned (OpenSpec.upto fanoPutsSpec)

/-- 'herbariumlaw05.RiceFirst', WHERE WHAT IT READS IS OF BULK AT MOST 1048576: true; the input reads as it did. -/
def riceFirstUptoRow : OpenClaim := { program := "ytlmelcfiegamaaa", sum := "ecc4fcecf09fff297130024c0065410745738e2f1b7337cf2ef6bf4da7016e92", func := "herbarium/herbariumlaw05.RiceFirst", spec := "riceFirst", apart := false, narrowed := true }
def RiceFirstUptoSaid : Prop := riceFirstUptoRow.holds Try.pinned (OpenSpec.upto riceFirstSpec)

/-- 'herbariumlaw05.RiceCursors', WHERE WHAT IT READS IS OF BULK AT MOST 1048576: true; the input reads as it did. -/
def riceCursorsUptoRow : OpenClaim := { program := "ytlmelcfiegamaaa", sum := "ecc4fcecf09fff297130024c0065410745738e2f1b7337cf2ef6bf4da7016e92", func := "herbarium/herbariumlaw05.RiceCursors", spec := "riceCursors", apart := false, narrowed := true }
def RiceCursorsUptoSaid : Prop := riceCursorsUptoRow.holds Try.pinned (OpenSpec.upto riceCursorsSpec)

/-- 'herbariumlaw05.RicePuts', WHERE WHAT IT READS IS OF BULK AT MOST 1048576: true; the input reads as it did. -/
def ricePutsUptoRow : OpenClaim := { program := "ytlmelcfiegamaaa", sum := "ecc4fcecf09fff297130024c0065410745738e2f1b7337cf2ef6bf4da7016e92", func := "herbarium/herbariumlaw05.RicePuts", spec := "ricePuts", apart := false, narrowed := true }
def RicePutsUptoSaid : Prop := ricePutsUptoRow.holds Try.pinned (OpenSpec.upto ricePutsSpec)

/-- 'herbariumlaw05.RiceAny', WHERE WHAT IT READS IS OF BULK AT MOST 1048576: true; the input reads as it did. -/
def riceAnyUptoRow : OpenClaim := { program := "ytlmelcfiegamaaa", sum := "ecc4fcecf09fff297130024c0065410745738e2f1b7337cf2ef6bf4da7016e92", func := "herbarium/herbariumlaw05.RiceAny", spec := "riceAny", apart := false, narrowed := true }
def RiceAnyUptoSaid : Prop := riceAnyUptoRow.holds Try.pinned (OpenSpec.upto riceAnySpec)

end Rows
end Go.Proofs.Ytlmelcfiegamaaa
