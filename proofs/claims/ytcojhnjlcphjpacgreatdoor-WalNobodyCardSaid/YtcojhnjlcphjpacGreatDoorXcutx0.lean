-- Written by this session's program xprint.py: the print, with contracts proved by hand among its texts. Not trusted: Lean checks it.
import Derived.Test.YtcojhnjlcphjpacGreatDoorProg
import Derived.Below
import Derived.Deep.Draws
import Derived.Deep.AppendLies
import Derived.Maps.AppendAt
import Derived.OwnWalk
import Derived.Laws.BytesArg
import Derived.Laws.MakeOwn
import Derived.Laws.OwnMore
import Derived.Deep.OwnRows
import Derived.Tactics
import Derived.Lib.ConvBytes
import Derived.Laws.Slices
import Derived.WalkKit
import Derived.KernelRfl
import Derived.RowKit3
import Derived.Deep.LoopGhost
import Derived.Deep.QuietTactic
import Derived.BigQuiet
import Derived.WideLaws
import Derived.Deep.DeepCutAuto
import Derived.Deep.CutBlock
import Derived.Deep.RegionHeld3
import Derived.Laws.Rows
import Derived.Lib.AppendStr
import Derived.ArgAppend
import Derived.Laws.IdiomCopy
import Derived.OrdersHeld
import Derived.Laws.BitsLemmas
import Derived.RowKit
import Derived.Test.YtcojhnjlcphjpacGreatDoorWWords
import Derived.Test.YtcojhnjlcphjpacGreatDoorWLast
import Derived.Test.YtcojhnjlcphjpacGreatDoorWTab
import Derived.Test.YtcojhnjlcphjpacGreatDoorWFour
import Derived.Test.YtcojhnjlcphjpacGreatDoorWQPut
import Derived.Test.YtcojhnjlcphjpacGreatDoorWApart
import Derived.Test.YtcojhnjlcphjpacGreatDoorWArr
import Derived.Test.YtcojhnjlcphjpacGreatDoorWZeros
import Derived.Test.YtcojhnjlcphjpacGreatDoorWFoot
import Derived.Test.YtcojhnjlcphjpacGreatDoorWKept
import Derived.Test.YtcojhnjlcphjpacGreatDoorWShare
import Derived.Test.YtcojhnjlcphjpacGreatDoorWN
import Derived.Test.YtcojhnjlcphjpacGreatDoorWFootNe
import Derived.Test.YtcojhnjlcphjpacGreatDoorWAt
import Derived.Test.YtcojhnjlcphjpacGreatDoorWEqStruct
import Derived.Test.YtcojhnjlcphjpacGreatDoorWRepsOne
import Derived.Test.YtcojhnjlcphjpacGreatDoorWInv
import Derived.Test.YtcojhnjlcphjpacGreatDoorWInvWords
import Derived.Test.YtcojhnjlcphjpacGreatDoorWGuard
import Derived.Test.YtcojhnjlcphjpacGreatDoorWNEv
import Derived.Test.YtcojhnjlcphjpacGreatDoorWMore
namespace Go.Proofs.YtcojhnjlcphjpacGreatDoor.Xcut
open Go.RowKit Go.Proofs.YtcojhnjlcphjpacGreatDoorW.PrintWords Go.Proofs.YtcojhnjlcphjpacGreatDoorW.PrintLast Go.Proofs.YtcojhnjlcphjpacGreatDoorW.PrintMore
attribute [local go_sem] max2_int min2_int max_two min_two max_three min_three max_four min_four   -- for this text's walks alone
set_option linter.unusedVariables false
set_option linter.unusedSimpArgs false



def errW : Option Int → Value
  | none => .nilIface
  | some c => .iface 0 (.int .i64 c)
theorem errW_none : errW none = .nilIface := rfl
theorem errW_some (c : Int) : errW (some c) = .iface 0 (.int .i64 c) := rfl

theorem info9 : (Tryz.prog.info? 9).map (fun i => (i.zero, i.size, i.bytes)) = some (some (.string ⟨#[]⟩), 1, 16) := by kernel_rfl
-- the values' own types

end Go.Proofs.YtcojhnjlcphjpacGreatDoor.Xcut
