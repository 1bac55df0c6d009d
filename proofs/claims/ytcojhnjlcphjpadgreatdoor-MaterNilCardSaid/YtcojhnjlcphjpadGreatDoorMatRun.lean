/- MaterNil, the walk: run by the small machine as a whole: whatever number comes in. Conditions: a world of at least one block. -/
import Derived.Test.YtcojhnjlcphjpadGreatDoorMatMixEOwn
import Derived.Test.YtcojhnjlcphjpadGreatDoorMatMixERef
import Derived.Test.YtcojhnjlcphjpadGreatDoorMatMixFOwn
import Derived.Test.YtcojhnjlcphjpadGreatDoorMatMixFRef
namespace Go.Proofs.YtcojhnjlcphjpadGreatDoorM
open Go Go.RowKit Go.Proofs.YtcojhnjlcphjpadGreatDoorD
set_option linter.unusedVariables false
theorem mix_plug {base : Nat} {w0 : World} : Plug1 Tryz.prog 1 base w0 122 (pMemo mixes) :=
  pMemo_ok (Nat.le_refl 1) Tryz.func122 (by kernel_rfl) (by intro h; exact absurd h (by decide)) mixes fun q hq => by
    rcases List.mem_cons.1 hq with rfl | hq
    · exact ⟨rfl, rfl, memoEOwn⟩
    · obtain rfl := List.mem_singleton.1 hq
      exact ⟨rfl, rfl, memoFOwn⟩
theorem mixr_plug {base : Nat} {w0 : World} : Plug1 Tryz.prog 1 base w0 118 (pMemo mixes) :=
  pMemo_ok (Nat.le_refl 1) Tryz.func118 (by kernel_rfl) (by intro h; exact absurd h (by decide)) mixes fun q hq => by
    rcases List.mem_cons.1 hq with rfl | hq
    · exact ⟨rfl, rfl, memoERef⟩
    · obtain rfl := List.mem_singleton.1 hq
      exact ⟨rfl, rfl, memoFRef⟩
noncomputable def plugsA : List (Nat × (List DVal → HM)) := [(122, pMemo mixes), (90, pStr 5), (120, pCheck 161)]
noncomputable def plugsB : List (Nat × (List DVal → HM)) := [(118, pMemo mixes)]
noncomputable def flatsA : List (Nat × (List DVal → HM)) := [(175, pRoom 5)]
noncomputable def flatsC : List (Nat × (List DVal → HM)) := [(161, pCount), (177, pIndexByte)]
theorem runFile : endsOut mDigest (callRun (envOf Tryz.prog (plugsOf plugsA) 0 (plugsOf flatsA) .nil) 1000000 1 25 [.agg [.int .i64 0, .nils]] (deadHeap 1) 2) = true := by decide +kernel
theorem runNamed : endsOut mDigest (callRun (envOf Tryz.prog (plugsOf plugsB) 0 .nil .nil) 1000000 1 8 [.int .i64 0, .nils] (deadHeap 1) 2) = true := by decide +kernel
theorem plugsA_ok (w : World) (gl : Nat) (flat : T (List DVal → HM)) (cln : T Unit) : PlugsOk Tryz.prog (envOf Tryz.prog (plugsOf plugsA) gl flat cln) 1 w.heap.size w :=
  plugsOk_of plugsA rfl fun q hq => by
    rcases List.mem_cons.1 hq with rfl | hq
    · exact mix_plug
    · rcases List.mem_cons.1 hq with rfl | hq
      · exact str_plug
      · obtain rfl := List.mem_singleton.1 hq
        exact check_plug
theorem plugsB_ok (w : World) (gl : Nat) (flat : T (List DVal → HM)) (cln : T Unit) : PlugsOk Tryz.prog (envOf Tryz.prog (plugsOf plugsB) gl flat cln) 1 w.heap.size w :=
  plugsOk_of plugsB rfl fun q hq => by
    obtain rfl := List.mem_singleton.1 hq
    exact mixr_plug
theorem flatsA_ok (w : World) (plug : T (List DVal → HM)) (gl : Nat) (cln : T Unit) : ExtOk Tryz.prog (envOf Tryz.prog plug gl (plugsOf flatsA) cln) 1 w.heap.size w :=
  extOk_of flatsA rfl fun q hq => by
    obtain rfl := List.mem_singleton.1 hq
    exact room_ext
theorem flatsC_ok (w : World) (plug : T (List DVal → HM)) (gl : Nat) (cln : T Unit) : ExtOk Tryz.prog (envOf Tryz.prog plug gl (plugsOf flatsC) cln) 1 w.heap.size w :=
  extOk_of flatsC rfl fun q hq => by
    rcases List.mem_cons.1 hq with rfl | hq
    · exact count_ext
    · obtain rfl := List.mem_singleton.1 hq
      exact index_ext
theorem memoFile : Memo1 Tryz.prog 25 [.agg [.int .i64 0, .nils]] mDigest :=
  memo_of_run (env_ok okP _ _ _ _) (Nat.zero_le 1) (fun w => plugsA_ok w _ _ _) (fun w => flatsA_ok w _ _ _) (by omega) runFile
theorem memoNamed : Memo1 Tryz.prog 8 [.int .i64 0, .nils] mDigest :=
  memo_of_run (env_ok okP _ _ _ _) (Nat.zero_le 1) (fun w => plugsB_ok w _ _ _) (fun _ => extOk_nil rfl) (by omega) runNamed
def files : List (List DVal × DVal) := [([.agg [.int .i64 0, .nils]], mDigest)]
def nameds : List (List DVal × DVal) := [([.int .i64 0, .nils], mDigest)]
theorem file_plug {base : Nat} {w0 : World} : Plug1 Tryz.prog 1 base w0 25 (pMemo files) :=
  pMemo_ok (Nat.le_refl 1) Tryz.func25 (by kernel_rfl) (by intro h; exact absurd h (by decide)) files fun q hq => by
    obtain rfl := List.mem_singleton.1 hq
    exact ⟨rfl, rfl, memoFile⟩
theorem named_plug {base : Nat} {w0 : World} : Plug1 Tryz.prog 1 base w0 8 (pMemo nameds) :=
  pMemo_ok (Nat.le_refl 1) Tryz.func8 (by kernel_rfl) (by intro h; exact absurd h (by decide)) nameds fun q hq => by
    obtain rfl := List.mem_singleton.1 hq
    exact ⟨rfl, rfl, memoNamed⟩
noncomputable def plugsC : List (Nat × (List DVal → HM)) := [(25, pMemo files), (8, pMemo nameds)]
theorem plugsC_ok (w : World) (gl : Nat) (flat : T (List DVal → HM)) (cln : T Unit) : PlugsOk Tryz.prog (envOf Tryz.prog (plugsOf plugsC) gl flat cln) 1 w.heap.size w :=
  plugsOk_of plugsC rfl fun q hq => by
    rcases List.mem_cons.1 hq with rfl | hq
    · exact file_plug
    · obtain rfl := List.mem_singleton.1 hq
      exact named_plug
theorem runAll : goodB (callRun (envOf Tryz.prog (plugsOf plugsC) 0 (plugsOf flatsC) (flatsOf [26, 29])) 1000000 1 3 [.unk] (deadHeap 1) 2) = true := by decide +kernel
theorem walk (most : Int) (W : World) (hW : 1 ≤ W.heap.size) : Calls Tryz.prog 3 #[.int .i64 most] W fun e w' => e = .returned (.bool true) ∧ Below W.heap.size W w' :=
  true_args (env_ok okP _ _ _ _) (Nat.zero_le 1) (by omega) hW (plugsC_ok W _ _ _) (flatsC_ok W _ _ _) (VsRel.cons (by simp only [VRel]; rfl) VsRel.nil) runAll
end Go.Proofs.YtcojhnjlcphjpadGreatDoorM
