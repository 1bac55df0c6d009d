/- WalNobody, the machine's part: awake of layer 7; a disk that is dead, a new one: what an opening tells. Conditions: none. -/
import Derived.Test.YtcojhnjlcphjpacGreatDoorWalBld
namespace Go.Proofs.YtcojhnjlcphjpacGreatDoorM
open Go Go.RowKit Go.Proofs.YtcojhnjlcphjpacGreatDoorD
set_option linter.unusedVariables false
noncomputable def plugs7 : List (Nat × (List DVal → HM)) := [(41, pStr 5), (57, pCheck 80)]
noncomputable def flats7 : List (Nat × (List DVal → HM)) := [(140, pIndexByte)]
theorem plugs7_ok (w : World) (gl : Nat) (flat : T (List DVal → HM)) (cln : T Unit) : PlugsOk Tryz.prog (envOf Tryz.prog (plugsOf plugs7) gl flat cln) 1 w.heap.size w :=
  plugsOk_of plugs7 rfl fun q hq => by
    rcases List.mem_cons.1 hq with rfl | hq
    · exact str_plug
    · obtain rfl := List.mem_singleton.1 hq
      exact check_plug
theorem flats7_ok (w : World) (plug : T (List DVal → HM)) (gl : Nat) (cln : T Unit) : ExtOk Tryz.prog (envOf Tryz.prog plug gl (plugsOf flats7) cln) 1 w.heap.size w :=
  extOk_of flats7 rfl fun q hq => by
    obtain rfl := List.mem_singleton.1 hq
    exact index_ext
theorem run07 : goodB (callRun (envOf Tryz.prog (plugsOf plugs7) 0 (plugsOf flats7) (flatsOf [23, 29])) 1000000 1 7 [] (deadHeap 1) 2) = true := by decide +kernel
theorem awake_any (w : World) (hw : 1 ≤ w.heap.size) : Calls Tryz.prog 7 #[] w fun e w' => e = .returned (.bool true) ∧ Below w.heap.size w w' :=
  true_args (env_ok okP _ _ _ _) (Nat.zero_le 1) (by omega) hw (plugs7_ok w _ _ _) (flats7_ok w _ _ _) VsRel.nil run07
noncomputable def E0 : Env := envOf Tryz.prog .nil 0 .nil .nil
noncomputable def aDead : HM := .sub false (callF E0 (exec E0 100000) 4 []) fun d _ _ => .sub false (callF E0 (exec E0 100000) 5 [d, .int .i64 0, .int .i64 0]) fun _ _ _ => .sub false (callF E0 (exec E0 100000) 6 [d, .int .i64 10]) fun v _ _ => .ret v
noncomputable def aNew (m : DVal) : HM := .sub false (callF E0 (exec E0 100000) 4 []) fun d _ _ => .sub false (callF E0 (exec E0 100000) 6 [d, m]) fun v _ _ => .ret v
def mMany : DVal := .sym .i64 1 9223372036854775807 0 0
def mNone : DVal := .sym .i64 (-9223372036854775808) 0 0 0
theorem runDead : endsThird 7 (run 1 aDead false (deadHeap 1) 2 [] []) = true := by decide +kernel
theorem runMany : endsThird 0 (run 1 (aNew mMany) false (deadHeap 1) 2 [] []) = true := by decide +kernel
theorem runNone : endsThird 1 (run 1 (aNew mNone) false (deadHeap 1) 2 [] []) = true := by decide +kernel
theorem ok_of {k : Int} {m : HM} (h : endsThird k (run 1 m false (deadHeap 1) 2 [] []) = true) : Ok 1 m ⟨deadHeap 1, 2⟩ fun v _ _ => third k v = true := by
  obtain ⟨h1, h2⟩ := endsThird_mem h
  exact (run_ok (Nat.le_refl 1) m false (deadHeap 1) 2 [] [] h1 (by omega)).mono fun v h n ⟨o, ho, e, _, _⟩ => by rw [← e]; exact h2 o ho
theorem okDead : Ok 1 aDead ⟨deadHeap 1, 2⟩ fun v _ _ => third 7 v = true := ok_of runDead
theorem okMany : Ok 1 (aNew mMany) ⟨deadHeap 1, 2⟩ fun v _ _ => third 0 v = true := ok_of runMany
theorem okNone : Ok 1 (aNew mNone) ⟨deadHeap 1, 2⟩ fun v _ _ => third 1 v = true := ok_of runNone
/-- The next call, in this program. -/
theorem next {base : Nat} {w0 w : World} {ρ : Rho} {s : St} {outs : Outs} {f : Nat} {args : List DVal} {vargs : Array Value} {l : Bool} {k : DVal → List Nat → List Nat → HM}
    (hok : Ok 1 (.sub l (callF E0 (exec E0 100000) f args) k) s outs) (r : Rel Tryz.prog 1 base w0 ρ s.h w) (ha : VsRel ρ args vargs.toList) :
    Calls Tryz.prog f vargs w fun e w' => ∃ (ρ' : Rho) (d : DVal) (v : Value) (s' : St) (rd wr : List Nat), e = .returned v ∧ ρ.le ρ' ∧ Rel Tryz.prog 1 base w0 ρ' s'.h w' ∧ VRel ρ' d v ∧ Ok 1 (k d rd wr) s' outs :=
  sub_call (Nat.le_refl 1) (env_ok okP _ _ _ _) (Nat.zero_le 1) (plugsOk_nil rfl) (extOk_nil rfl) hok r ha
end Go.Proofs.YtcojhnjlcphjpacGreatDoorM
