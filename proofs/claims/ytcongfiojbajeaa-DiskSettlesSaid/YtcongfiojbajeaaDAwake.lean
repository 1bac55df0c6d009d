/- awake, of layer 6: of ten loose bytes eight are kept: run by the small machine. Conditions: a world of at least one block. -/
import Derived.Test.YtcongfiojbajeaaDc
import Derived.Test.YtcongfiojbajeaaProg
namespace Go.Proofs.YtcongfiojbajeaaN
open Go Go.RowKit Go.Proofs.YtcongfiojbajeaaD
theorem okP : progOkB Try.prog = true := by decide +kernel
theorem run06 : goodB (callRun (envOf Try.prog .nil 0 (plugsOf []) .nil) 100000 1 15 [] (deadHeap 1) 2) = true := by decide +kernel
theorem awake_any (w : World) (hw : 1 ≤ w.heap.size) : Calls Try.prog 15 #[] w fun e w' => e = .returned (.bool true) ∧ Below w.heap.size w w' :=
  true_plain okP (fun _ _ h => by cases h) run06 w hw
end Go.Proofs.YtcongfiojbajeaaN
