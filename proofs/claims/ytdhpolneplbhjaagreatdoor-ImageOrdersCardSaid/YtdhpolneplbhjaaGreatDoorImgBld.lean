/- The functions of Go's library that the small machine takes whole, in this program. Conditions: none. -/
import Derived.Test.YtdhpolneplbhjaaGreatDoorDc
import Derived.Test.YtdhpolneplbhjaaGreatDoorProg
import Derived.Shelf.RegionOpenPlain
import Derived.Lib.Walk
import Derived.Lib.Builder
import Derived.Lib.UnsafeStr
import Derived.WalkKit
import Derived.Laws.Externs
namespace Go.Proofs.YtdhpolneplbhjaaGreatDoorR
open Go Go.RowKit Go.Proofs.YtdhpolneplbhjaaGreatDoorD
set_option linter.unusedVariables false
set_option linter.unusedSimpArgs false
theorem okP : progOkB Tryz.prog = true := by decide +kernel
theorem ext_of {f : Nat} {fn : Func} {e : Array Value → Sem Value} (hf : Tryz.prog.funcs[f]? = some fn) (h1 : (fn.name == "runtime.NumGoroutine") = false) (h2 : fn.body.isNone = true) (h3 : Extern.findNext fn = none) (h4 : Extern.find fn = some e) (args : Array Value) (w : World) :
    (callFunc f args).run Tryz.prog w = (do pure (.value (← e args)) : Sem Next).run Tryz.prog w := by
  rw [run_callFunc_extern hf h1 h2 h3 h4, Sem.run_bind]
  rfl
theorem count_ext {nb base : Nat} {w0 : World} : Ext1 Tryz.prog nb base w0 45 pCount :=
  pCount_ok fun args w => ext_of Tryz.func45 (by kernel_rfl) (by kernel_rfl) (by kernel_rfl) (by kernel_rfl) args w
theorem index_ext {nb base : Nat} {w0 : World} : Ext1 Tryz.prog nb base w0 91 pIndexByte :=
  pIndexByte_ok fun args w => ext_of Tryz.func91 (by kernel_rfl) (by kernel_rfl) (by kernel_rfl) (by kernel_rfl) args w
theorem compare_ext {nb base : Nat} {w0 : World} : Ext1 Tryz.prog nb base w0 77 pCompare :=
  pCompare_ok fun args w => ext_of Tryz.func77 (by kernel_rfl) (by kernel_rfl) (by kernel_rfl) (by kernel_rfl) args w
end Go.Proofs.YtdhpolneplbhjaaGreatDoorR
