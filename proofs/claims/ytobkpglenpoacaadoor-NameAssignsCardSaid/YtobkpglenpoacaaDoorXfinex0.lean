-- Written by this session's program xprint.py: the print, with contracts proved by hand among its texts. Not trusted: Lean checks it.
import Derived.Test.YtobkpglenpoacaaDoorProg
import Derived.Below
import Derived.Deep.Draws
import Derived.Deep.AppendLies
import Derived.Maps.AppendAt
import Derived.OwnWalk
import Derived.Laws.BytesArg
import Derived.Laws.MakeOwn
import Derived.Laws.OwnMore
import Derived.Deep.OwnRows
import Derived.Tactics
import Derived.Lib.ConvBytes
import Derived.Laws.Slices
import Derived.WalkKit
import Derived.KernelRfl
import Derived.RowKit3
import Derived.Deep.LoopGhost
import Derived.Deep.QuietTactic
import Derived.BigQuiet
import Derived.WideLaws
import Derived.Deep.DeepCutAuto
import Derived.Deep.CutBlock
import Derived.Deep.RegionHeld3
import Derived.Laws.Rows
import Derived.Lib.AppendStr
import Derived.ArgAppend
import Derived.Laws.IdiomCopy
import Derived.OrdersHeld
import Derived.Laws.BitsLemmas
import Derived.RowKit
import Derived.Test.YtobkpglenpoacaaDoorWWords
import Derived.Test.YtobkpglenpoacaaDoorWLast
import Derived.Test.YtobkpglenpoacaaDoorWTab
import Derived.Test.YtobkpglenpoacaaDoorWFour
import Derived.Test.YtobkpglenpoacaaDoorWQPut
import Derived.Test.YtobkpglenpoacaaDoorWApart
import Derived.Test.YtobkpglenpoacaaDoorWArr
import Derived.Test.YtobkpglenpoacaaDoorWZeros
import Derived.Test.YtobkpglenpoacaaDoorWFoot
import Derived.Test.YtobkpglenpoacaaDoorWKept
import Derived.Test.YtobkpglenpoacaaDoorWShare
import Derived.Test.YtobkpglenpoacaaDoorWN
import Derived.Test.YtobkpglenpoacaaDoorWFootNe
import Derived.Test.YtobkpglenpoacaaDoorWAt
import Derived.Test.YtobkpglenpoacaaDoorWEqStruct
import Derived.Test.YtobkpglenpoacaaDoorWRepsOne
import Derived.Test.YtobkpglenpoacaaDoorWInv
import Derived.Test.YtobkpglenpoacaaDoorWInvWords
import Derived.Test.YtobkpglenpoacaaDoorWGuard
import Derived.Test.YtobkpglenpoacaaDoorWNEv
import Derived.Test.YtobkpglenpoacaaDoorWMore
namespace Go.Proofs.YtobkpglenpoacaaDoor.Xfine
open Go.RowKit Go.Proofs.YtobkpglenpoacaaDoorW.PrintWords Go.Proofs.YtobkpglenpoacaaDoorW.PrintLast Go.Proofs.YtobkpglenpoacaaDoorW.PrintMore
attribute [local go_sem] max2_int min2_int max_two min_two max_three min_three max_four min_four   -- for this text's walks alone
set_option linter.unusedVariables false
set_option linter.unusedSimpArgs false



def errW : Option Int → Value
  | none => .nilIface
  | some c => .iface 0 (.int .i64 c)
theorem errW_none : errW none = .nilIface := rfl
theorem errW_some (c : Int) : errW (some c) = .iface 0 (.int .i64 c) := rfl

-- the values' own types

end Go.Proofs.YtobkpglenpoacaaDoor.Xfine
