/- awake, of layer 15: two things of one name: run by the small machine. Conditions: a world of at least one block. -/
import Derived.Test.YtdhpolneplbhjaaGreatDoorImgBld
import Derived.Test.YtdhpolneplbhjaaGreatDoorInsA
namespace Go.Proofs.YtdhpolneplbhjaaGreatDoorR
open Go Go.RowKit Go.Proofs.YtdhpolneplbhjaaGreatDoorD
set_option linter.unusedVariables false
noncomputable def E0 : Env := envOf Tryz.prog .nil 0 .nil .nil
theorem insU_plug {nb base : Nat} {w0 : World} : Plug1 Tryz.prog nb base w0 51 (pIns E0 77 22 1) := by
  have hi0 : (Tryz.prog.info? 22).map (·.size) = some 1 := by kernel_rfl
  obtain ⟨i, hi, h1⟩ := Option.map_eq_some_iff.1 hi0
  exact pIns_ok (env_ok okP _ _ _ _) Tryz.func51 (by kernel_rfl) (by intro h; exact absurd h (by decide)) hi h1 Go.Proofs.YtdhpolneplbhjaaGreatDoorI.ins_u64
theorem insD_plug {nb base : Nat} {w0 : World} : Plug1 Tryz.prog nb base w0 22 (pIns E0 50 58 18) := by
  have hi0 : (Tryz.prog.info? 58).map (·.size) = some 18 := by kernel_rfl
  obtain ⟨i, hi, h1⟩ := Option.map_eq_some_iff.1 hi0
  exact pIns_ok (env_ok okP _ _ _ _) Tryz.func22 (by kernel_rfl) (by intro h; exact absurd h (by decide)) hi h1 Go.Proofs.YtdhpolneplbhjaaGreatDoorI.ins_done
noncomputable def plugs15 : List (Nat × (List DVal → HM)) := [(51, pIns E0 77 22 1), (22, pIns E0 50 58 18)]
noncomputable def flats15 : List (Nat × (List DVal → HM)) := [(77, pCompare), (45, pCount), (91, pIndexByte)]
theorem plugs15_ok (w : World) (gl : Nat) (flat : T (List DVal → HM)) (cln : T Unit) : PlugsOk Tryz.prog (envOf Tryz.prog (plugsOf plugs15) gl flat cln) 1 w.heap.size w :=
  plugsOk_of plugs15 rfl fun q hq => by
    rcases List.mem_cons.1 hq with rfl | hq
    · exact insU_plug
    · obtain rfl := List.mem_singleton.1 hq
      exact insD_plug
theorem flats15_ok (w : World) (plug : T (List DVal → HM)) (gl : Nat) (cln : T Unit) : ExtOk Tryz.prog (envOf Tryz.prog plug gl (plugsOf flats15) cln) 1 w.heap.size w :=
  extOk_of flats15 rfl fun q hq => by
    rcases List.mem_cons.1 hq with rfl | hq
    · exact compare_ext
    · rcases List.mem_cons.1 hq with rfl | hq
      · exact count_ext
      · obtain rfl := List.mem_singleton.1 hq
        exact index_ext
theorem run15 : goodB (callRun (envOf Tryz.prog (plugsOf plugs15) 0 (plugsOf flats15) .nil) 1000000 1 5 [] (deadHeap 1) 2) = true := by decide +kernel
theorem awake_any (w : World) (hw : 1 ≤ w.heap.size) : Calls Tryz.prog 5 #[] w fun e w' => e = .returned (.bool true) ∧ Below w.heap.size w w' :=
  true_args (env_ok okP _ _ _ _) (Nat.zero_le 1) (by omega) hw (plugs15_ok w _ _ _) (flats15_ok w _ _ _) VsRel.nil run15
end Go.Proofs.YtdhpolneplbhjaaGreatDoorR
