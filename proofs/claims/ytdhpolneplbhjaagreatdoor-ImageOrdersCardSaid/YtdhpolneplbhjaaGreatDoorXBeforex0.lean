-- Written by this session's program xprint.py: the print, with contracts proved by hand among its texts. Not trusted: Lean checks it.
import Derived.Test.YtdhpolneplbhjaaGreatDoorProg
import Derived.Below
import Derived.Deep.Draws
import Derived.Deep.AppendLies
import Derived.Maps.AppendAt
import Derived.OwnWalk
import Derived.Laws.BytesArg
import Derived.Laws.MakeOwn
import Derived.Laws.OwnMore
import Derived.Deep.OwnRows
import Derived.Tactics
import Derived.Lib.ConvBytes
import Derived.Laws.Slices
import Derived.WalkKit
import Derived.KernelRfl
import Derived.RowKit3
import Derived.Deep.LoopGhost
import Derived.Deep.QuietTactic
import Derived.BigQuiet
import Derived.WideLaws
import Derived.Deep.DeepCutAuto
import Derived.Deep.CutBlock
import Derived.Deep.RegionHeld3
import Derived.Laws.Rows
import Derived.Lib.AppendStr
import Derived.ArgAppend
import Derived.Laws.IdiomCopy
import Derived.OrdersHeld
import Derived.Laws.BitsLemmas
import Derived.RowKit
import Derived.Test.YtdhpolneplbhjaaGreatDoorWWords
import Derived.Test.YtdhpolneplbhjaaGreatDoorWLast
import Derived.Test.YtdhpolneplbhjaaGreatDoorWTab
import Derived.Test.YtdhpolneplbhjaaGreatDoorWFour
import Derived.Test.YtdhpolneplbhjaaGreatDoorWQPut
import Derived.Test.YtdhpolneplbhjaaGreatDoorWApart
import Derived.Test.YtdhpolneplbhjaaGreatDoorWArr
import Derived.Test.YtdhpolneplbhjaaGreatDoorWZeros
import Derived.Test.YtdhpolneplbhjaaGreatDoorWFoot
import Derived.Test.YtdhpolneplbhjaaGreatDoorWKept
import Derived.Test.YtdhpolneplbhjaaGreatDoorWShare
import Derived.Test.YtdhpolneplbhjaaGreatDoorWN
import Derived.Test.YtdhpolneplbhjaaGreatDoorWFootNe
import Derived.Test.YtdhpolneplbhjaaGreatDoorWAt
import Derived.Test.YtdhpolneplbhjaaGreatDoorWEqStruct
import Derived.Test.YtdhpolneplbhjaaGreatDoorWRepsOne
import Derived.Test.YtdhpolneplbhjaaGreatDoorWInv
import Derived.Test.YtdhpolneplbhjaaGreatDoorWInvWords
import Derived.Test.YtdhpolneplbhjaaGreatDoorWGuard
import Derived.Test.YtdhpolneplbhjaaGreatDoorWNEv
import Derived.Test.YtdhpolneplbhjaaGreatDoorWMore
namespace Go.Proofs.YtdhpolneplbhjaaGreatDoor.XBefore
open Go.RowKit Go.Proofs.YtdhpolneplbhjaaGreatDoorW.PrintWords Go.Proofs.YtdhpolneplbhjaaGreatDoorW.PrintLast Go.Proofs.YtdhpolneplbhjaaGreatDoorW.PrintMore
attribute [local go_sem] max2_int min2_int max_two min_two max_three min_three max_four min_four   -- for this text's walks alone
set_option linter.unusedVariables false
set_option linter.unusedSimpArgs false



def errW : Option Int → Value
  | none => .nilIface
  | some c => .iface 0 (.int .i64 c)
theorem errW_none : errW none = .nilIface := rfl
theorem errW_some (c : Int) : errW (some c) = .iface 0 (.int .i64 c) := rfl

theorem info9 : (Tryz.prog.info? 9).map (fun i => (i.zero, i.size, i.bytes)) = some (some (.string ⟨#[]⟩), 1, 16) := by kernel_rfl
-- the values' own types

end Go.Proofs.YtdhpolneplbhjaaGreatDoor.XBefore
