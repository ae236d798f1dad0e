-- Written by the kit's print.py over texts that my own driver gave it; not typed by hand.
import Derived.Test.YtlmelcfiegamaaaProg
import Derived.Below
import Derived.Deep.Draws
import Derived.Deep.AppendLies
import Derived.Maps.AppendAt
import Derived.OwnWalk
import Derived.Laws.BytesArg
import Derived.Laws.MakeOwn
import Derived.Laws.OwnMore
import Derived.Deep.OwnRows
import Derived.Tactics
import Derived.Lib.ConvBytes
import Derived.Laws.Slices
import Derived.WalkKit
import Derived.KernelRfl
import Derived.RowKit3
import Derived.Deep.LoopGhost
import Derived.Deep.QuietTactic
import Derived.BigQuiet
import Derived.WideLaws
import Derived.Deep.DeepCutAuto
import Derived.Deep.CutBlock
import Derived.Deep.RegionHeld3
import Derived.Laws.Rows
import Derived.Lib.AppendStr
import Derived.ArgAppend
import Derived.Laws.IdiomCopy
import Derived.OrdersHeld
import Derived.Laws.BitsLemmas
import Derived.RowKit
import Derived.Test.YtlmelcfiegamaaaWWords
import Derived.Test.YtlmelcfiegamaaaWLast
import Derived.Test.YtlmelcfiegamaaaWTab
import Derived.Test.YtlmelcfiegamaaaWFour
import Derived.Test.YtlmelcfiegamaaaWQPut
import Derived.Test.YtlmelcfiegamaaaWApart
import Derived.Test.YtlmelcfiegamaaaWArr
import Derived.Test.YtlmelcfiegamaaaWZeros
import Derived.Test.YtlmelcfiegamaaaWFoot
import Derived.Test.YtlmelcfiegamaaaWKept
import Derived.Test.YtlmelcfiegamaaaWShare
import Derived.Test.YtlmelcfiegamaaaWN
import Derived.Test.YtlmelcfiegamaaaWFootNe
import Derived.Test.YtlmelcfiegamaaaWAt
import Derived.Test.YtlmelcfiegamaaaWEqStruct
import Derived.Test.YtlmelcfiegamaaaWRepsOne
import Derived.Test.YtlmelcfiegamaaaWInv
import Derived.Test.YtlmelcfiegamaaaWInvWords
import Derived.Test.YtlmelcfiegamaaaWGuard
import Derived.Test.YtlmelcfiegamaaaWNEv
import Derived.Test.YtlmelcfiegamaaaWMore
namespace Go.Proofs.Ytlmelcfiegamaaa.PFanoSteps
open Go.RowKit Go.Proofs.YtlmelcfiegamaaaW.PrintWords Go.Proofs.YtlmelcfiegamaaaW.PrintLast Go.Proofs.YtlmelcfiegamaaaW.PrintMore
attribute [local go_sem] max2_int min2_int max_two min_two max_three min_three max_four min_four   -- for this text's walks alone
set_option linter.unusedVariables false
set_option linter.unusedSimpArgs false



def errW : Option Int → Value
  | none => .nilIface
  | some c => .iface 0 (.int .i64 c)
theorem errW_none : errW none = .nilIface := rfl
theorem errW_some (c : Int) : errW (some c) = .iface 0 (.int .i64 c) := rfl

theorem info5 : (Try.prog.info? 5).map (fun i => (i.zero, i.size, i.bytes)) = some (some (.int .u8 0), 1, 1) := by kernel_rfl
theorem info26 : (Try.prog.info? 26).map (fun i => (i.zero, i.size, i.bytes)) = some (some (.int .u32 0), 1, 4) := by kernel_rfl
-- the values' own types

end Go.Proofs.Ytlmelcfiegamaaa.PFanoSteps
