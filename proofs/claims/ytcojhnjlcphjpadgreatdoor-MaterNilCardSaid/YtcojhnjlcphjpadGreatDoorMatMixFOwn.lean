/- MaterNil: one block, mixed by arbour/sha.Mix: run by the small machine. Conditions: none. -/
import Derived.Test.YtcojhnjlcphjpadGreatDoorMatTab
namespace Go.Proofs.YtcojhnjlcphjpadGreatDoorM
open Go Go.RowKit Go.Proofs.YtcojhnjlcphjpadGreatDoorD
set_option linter.unusedVariables false
theorem runFOwn : endsOut mOutF (callRun (envOf Tryz.prog .nil 0 .nil .nil) 1000000 1 122 [mStart, mBlockF] (deadHeap 1) 2) = true := by decide +kernel
theorem memoFOwn : Memo1 Tryz.prog 122 [mStart, mBlockF] mOutF :=
  memo_of_run (env_ok okP _ _ _ _) (Nat.zero_le 1) (fun _ => plugsOk_nil rfl) (fun _ => extOk_nil rfl) (by omega) runFOwn
end Go.Proofs.YtcojhnjlcphjpadGreatDoorM
