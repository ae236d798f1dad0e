-- Written by the kit's print.py over texts that my own driver gave it; not typed by hand.
import Derived.Test.YtolhhbnamldghaaProg
import Derived.Below
import Derived.Deep.Draws
import Derived.Deep.AppendLies
import Derived.Maps.AppendAt
import Derived.OwnWalk
import Derived.Laws.BytesArg
import Derived.Laws.MakeOwn
import Derived.Laws.OwnMore
import Derived.Deep.OwnRows
import Derived.Tactics
import Derived.Lib.ConvBytes
import Derived.Laws.Slices
import Derived.WalkKit
import Derived.KernelRfl
import Derived.RowKit3
import Derived.Deep.LoopGhost
import Derived.Deep.QuietTactic
import Derived.BigQuiet
import Derived.WideLaws
import Derived.Deep.DeepCutAuto
import Derived.Deep.CutBlock
import Derived.Deep.RegionHeld3
import Derived.Laws.Rows
import Derived.Lib.AppendStr
import Derived.ArgAppend
import Derived.Laws.IdiomCopy
import Derived.OrdersHeld
import Derived.Laws.BitsLemmas
import Derived.RowKit
import Derived.Test.YtolhhbnamldghaaWWords
import Derived.Test.YtolhhbnamldghaaWLast
import Derived.Test.YtolhhbnamldghaaWTab
import Derived.Test.YtolhhbnamldghaaWFour
import Derived.Test.YtolhhbnamldghaaWQPut
import Derived.Test.YtolhhbnamldghaaWApart
import Derived.Test.YtolhhbnamldghaaWArr
import Derived.Test.YtolhhbnamldghaaWZeros
import Derived.Test.YtolhhbnamldghaaWFoot
import Derived.Test.YtolhhbnamldghaaWKept
import Derived.Test.YtolhhbnamldghaaWShare
import Derived.Test.YtolhhbnamldghaaWN
import Derived.Test.YtolhhbnamldghaaWFootNe
import Derived.Test.YtolhhbnamldghaaWAt
import Derived.Test.YtolhhbnamldghaaWEqStruct
import Derived.Test.YtolhhbnamldghaaWRepsOne
import Derived.Test.YtolhhbnamldghaaWInv
import Derived.Test.YtolhhbnamldghaaWInvWords
import Derived.Test.YtolhhbnamldghaaWGuard
import Derived.Test.YtolhhbnamldghaaWNEv
import Derived.Test.YtolhhbnamldghaaWMore
namespace Go.Proofs.Ytolhhbnamldghaa.PSetBoth
open Go.RowKit Go.Proofs.YtolhhbnamldghaaW.PrintWords Go.Proofs.YtolhhbnamldghaaW.PrintLast Go.Proofs.YtolhhbnamldghaaW.PrintMore
attribute [local go_sem] max2_int min2_int max_two min_two max_three min_three max_four min_four   -- for this text's walks alone
set_option linter.unusedVariables false
set_option linter.unusedSimpArgs false



def errW : Option Int → Value
  | none => .nilIface
  | some c => .iface 0 (.int .i64 c)
theorem errW_none : errW none = .nilIface := rfl
theorem errW_some (c : Int) : errW (some c) = .iface 0 (.int .i64 c) := rfl

theorem info26 : (Try.prog.info? 26).map (fun i => (i.zero, i.size, i.bytes)) = some (some (.int .u32 0), 1, 4) := by kernel_rfl
-- the values' own types

end Go.Proofs.Ytolhhbnamldghaa.PSetBoth
