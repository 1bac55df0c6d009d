/- MaterNil, the card: without a disk, or with a dead one, whatever number comes in. Conditions: the listed variables of Go's library, tied to its text. -/
import Derived.LaidMore
import Derived.Lay
import Derived.LaidHandle
import Derived.SevenTiedAt
import Derived.Stop.Joined
import Derived.Test.YtcojhnjlcphjpadGreatDoorTie
import Derived.Test.YtcojhnjlcphjpadGreatDoorCards
import Derived.Test.YtcojhnjlcphjpadGreatDoorRows
import Derived.Test.YtcojhnjlcphjpadGreatDoorMatRun
import Derived.WalkKit
import Derived.ProofKit
import Derived.OpenShut
import Derived.ShutString
import Derived.ChangeOld
import Derived.Below
import Derived.SizedLaws
namespace Go.Proofs.YtcojhnjlcphjpadGreatDoor.materNil
open Go.ChangeShapes Go.WideShapes Go.ChangeAt Go.RowKit
open Go.ChangeMaps (open_string shut_string)
set_option linter.unusedVariables false
set_option linter.unusedSimpArgs false
theorem own : ownKnob Tryz.prog.godebug = none := by kernel_rfl
theorem laidOut : laidOutB Tryz.prog = true := by kernel_rfl
theorem size_of_var {W : World} {n : String} {cs : Array Value} (h : W.var? Tryz.prog n = some cs) : 1 ≤ W.heap.size := by
  unfold World.var? at h
  cases hg : Tryz.prog.globalNamed n with
  | none => rw [hg] at h; cases h
  | some g =>
    rw [hg] at h
    have h : (match W.heap[g]? with | some (.cells cs _ _) => some cs | _ => none : Option (Array Value)) = some cs := h
    cases ho : W.heap[g]? with
    | none => rw [ho] at h; cases h
    | some o => have := (Array.getElem?_eq_some_iff.1 ho).1; omega
set_option maxRecDepth 100000 in
theorem hSize {W : World} (h : laidMetH Tryz.prog Rows.materNilRow.laid W) : 1 ≤ W.heap.size := by
  have h' : laidMet Tryz.prog (Rows.materNilRow.laid.filter fun x => x.2.handleName?.isNone) W ∧ handlesMet Tryz.prog [("errors.errorType", Rows.laid_errors_errorType)] W := h
  obtain ⟨name, u, ty, e1, e2, e3, e4, e5⟩ := h'.2 _ (List.mem_singleton.2 rfl)
  exact size_of_var e5
noncomputable def hU : Nat := ((Tryz.prog.cutTypes.find? (·.1 == "internal/reflectlite.rtype")).map (·.2)).getD 0
noncomputable def hT : Nat := ((List.range Tryz.prog.types.size).find? fun t => Tryz.prog.rowNamed t ((Rows.laid_errors_errorType (H := Unit)).handleName?.getD [])).getD 0
noncomputable def hG : Nat := (Tryz.prog.globalNamed "errors.errorType").getD 0
noncomputable def w0 (os : Os) : World := let w := World.holding Tryz.prog os ⟨#[], #[], []⟩
  { w with heap := w.heap.modify hG fun
      | .cells _ t frozen => .cells #[.iface hU (.agg #[typeHandle Tryz.prog hT])] t frozen
      | o => o }
noncomputable def laidWorld (os : Os) : World := (w0 os).layVars Tryz.prog (Rows.materNilRow.laid.filter fun x => x.2.handleName?.isNone)
set_option maxRecDepth 100000 in
theorem laidWorld_met (os : Os) (args : Array Value) : laidMetH Tryz.prog Rows.materNilRow.laid ((laidWorld os).forCall (fun _ _ => 0) ⟨#[], args, []⟩).memory := by
  refine laidMetH_of_parts ?_ (by kernel_rfl)
  generalize hl : (Rows.materNilRow.laid.filter fun x => x.2.handleName?.isNone) = laid
  have e1 : (laid.filter fun x => (laid.map (·.1)).contains x.1) = laid := List.filter_eq_self.2 fun x hx => List.contains_iff_mem.2 (List.mem_map.2 ⟨x, hx, rfl⟩)
  have e2 : (laid.filter fun x => !(laid.map (·.1)).contains x.1) = [] := List.filter_eq_nil_iff.2 fun x hx => by rw [List.contains_iff_mem.2 (List.mem_map.2 ⟨x, hx, rfl⟩)]; simp
  have h : laidMet Tryz.prog laid (laidWorld os) := laidMet_layVars (w0 := w0 os) (laid.map (·.1)) [] (by rw [e1, ← hl]; rfl) (by rw [e1, ← hl]; kernel_rfl) (by rw [e1, ← hl]; kernel_rfl) (by rw [e2]; exact LaidIn.none)
  exact h.of_heap (by simp [World.memory, World.forCall, Input.heap])
set_option maxRecDepth 100000 in
theorem lifted (os : Os) (started : os.Started) (H : Type) (enc : TypeId × Value → H) :
    ReturnsInHanded {} Tryz.checked os 3 .any (fun w args => (Rows.materNilSpec.pre enc Tryz.prog Tryz.f3 Rows.materNilRow.domain false w args ∧ laidMetH Tryz.prog Rows.materNilRow.laid w) ∧ sizedMet enc Tryz.prog Tryz.f3 (OpenSpec.ofChange Rows.materNilSpec) false w args) (Rows.materNilSpec.post enc Tryz.prog Tryz.f3 false true false false) := by
  refine returnsInHanded_of_change_and (C := Tryz.checked) (X := fun w _ => laidMetH Tryz.prog Rows.materNilRow.laid w) (fun _ _ _ hh h => h.of_heap hh) own started (by kernel_rfl) Tryz.func3
    (ChangeSpec.witness_shaped (enc := enc) (C := Tryz.checked) (os := os) (X := fun w _ => laidMetH Tryz.prog Rows.materNilRow.laid w) false (laidWorld os) #[.int .i64 0] 8 (World.layVars_os _ _ _)
      (World.shaped_of_ZipB (by kernel_rfl) (by kernel_rfl)) (by kernel_rfl) (by kernel_rfl) (by kernel_rfl)
      (laidWorld_met os _)) ?_
  intro W base args ds gs before hval0 hW hcnd hsz0 hLaid _
  have hsz : (DataW.weightsEach Tryz.prog (Tryz.f3.params.toList ++ Rows.materNilSpec.plain.varTypes Tryz.prog) (ds ++ gs)).all (· ≤ reachBytes) = true := hsz0
  have hval : ∀ (j : Nat) t v, Tryz.f3.params[j]? = some t → args[j]? = some v → Value.okWide Tryz.prog W .any base t v := hval0
  have hW' := hW
  obtain ⟨p, q, hA0, hV, rfl, hfz, hnd⟩ := hW
  have hA : DataW.TrodAll enc Tryz.prog W 0 (fun _ => true) true Tryz.f3.params.toList args.toList ds p := hA0
  rw [Tryz.params3] at hA hval hsz
  obtain ⟨v0, vs0, d0, ds0, p0, q0, hargs, rfl, rfl, h0, r0⟩ := trodAll_cons hA
  obtain ⟨rfl, rfl, rfl⟩ := trodAll_nil r0
  obtain rfl : args = #[v0] := by cases args; simp_all
  obtain ⟨rfl, rfl⟩ := trodVars_none hV
  obtain ⟨a0, rfl, rfl, rfl, w0⟩ := open_int Tryz.underlying3 (hval 0 3 v0 rfl rfl) h0
  clear hA0 hval0 hsz0 hsz
  refine ((fun (a : Int) (_ : World) (_ : (Lit.int .i64 a).wf = true) => Go.Proofs.YtcojhnjlcphjpadGreatDoorM.walk a W (hSize hLaid)) a0 W w0).mono fun e W' ⟨he, bel⟩ => ?_
  subst he
  exact ⟨_, rfl, _, _, _, [], _, [], hW', trodAll_mk1 (shut_bool Tryz.underlying4 _), (trodAll_cons_mk (shut_int Tryz.underlying3 w0) trodAll_mk0), rfl, bel.frame _, fun h => by cases h⟩
theorem over : Rows.materNilRow.holds Tryz.pinned (OpenSpec.ofChange Rows.materNilSpec) :=
  OpenClaim.holds_of_wide 3 Tryz.f3 rfl rfl rfl rfl rfl rfl rfl ⟨rfl, rfl, rfl, rfl, rfl⟩ rfl rfl rfl rfl rfl (by kernel_rfl) Tryz.func3 (by kernel_rfl)
    (of_decide_eq_true (by kernel_rfl)) (by unfold Func.isWrapper; first | (rw [if_pos (by decide +kernel)]; kernel_rfl) | (rw [if_neg (by decide +kernel)]; exact ⟨rfl, rfl⟩))
    (fun os started H enc _ => lifted os started H enc)
theorem card : Rows.MaterNilCardSaid :=
  Claim7.holds_tied_plain_at .later [] [.data, .handle, .pinned] true (true, "632b7eab8bfdd6d856709b614a4ad2cbd1d0f6324053af4ffa326e13d5ce8a3b") true over (fun _ h => by cases h) (by kernel_rfl) (fun _ h => by cases h) materNil_row_tie rfl ⟨rfl, rfl⟩ (by kernel_rfl) rfl
    (fun f fn hf hfn => by
      obtain rfl : f = 3 := Option.some.inj ((show Tryz.prog.funcNamed "arbour/arbourlaw17.MaterNil" = some 3 by kernel_rfl).symm.trans hf) |>.symm
      obtain rfl : fn = Tryz.f3 := (Option.some.inj (Tryz.func3.symm.trans hfn)).symm
      exact ⟨by kernel_rfl, fun j t ht => by
        rw [Tryz.params3] at ht
        have hm : t ∈ [3] := by simpa using Array.mem_of_getElem? ht
        have hall : ([3].all fun u => !Tryz.prog.wantsStandIn u) = true := by kernel_rfl
        exact (show Tryz.prog.wantsStandIn t = false by simpa using List.all_eq_true.1 hall t hm)⟩)
    (by kernel_rfl)
theorem proved : Rows.MaterNilCardSaid := card
#print axioms proved
end Go.Proofs.YtcojhnjlcphjpadGreatDoor.materNil
namespace Go.Proofs.YtcojhnjlcphjpadGreatDoor
/-- The row, under a short name, for the claim. -/
theorem materNil_holds : Rows.MaterNilCardSaid := materNil.proved
end Go.Proofs.YtcojhnjlcphjpadGreatDoor
