/- DiskLimits, the row: of any acts and any room the disk is as the document has it, and all its files together take no more than the room. Conditions: none but the form's own. -/
import Derived.Test.YtcongfiojbajeaaRows
import Derived.Test.YtcongfiojbajeaaDiskLawK
import Derived.WalkKit
import Derived.ProofKit
import Derived.OpenShut
import Derived.ShutString
import Derived.ChangeOld
import Derived.Below
import Derived.SizedLaws
namespace Go.Proofs.Ytcongfiojbajeaa.diskLimits
open Go.ChangeShapes Go.WideShapes Go.ChangeAt Go.RowKit Go.Proofs.YtcongfiojbajeaaW.PrintWords
open Go.ChangeMaps (open_string shut_string)
set_option linter.unusedVariables false
set_option linter.unusedSimpArgs false
theorem own : ownKnob Try.prog.godebug = none := by kernel_rfl
theorem laidOut : laidOutB Try.prog = true := by kernel_rfl
theorem opens0 : Go.Proofs.YtcongfiojbajeaaO.Opens Try.prog 22 (Kd.slice 34 Go.Proofs.YtcongfiojbajeaaK.kDoing) (fun l => l.length ≤ maxLen ∧ ∀ x ∈ l, x.nme.size ≤ maxLen ∧ x.tn.size ≤ maxLen ∧ x.s.size ≤ maxLen) := Go.Proofs.YtcongfiojbajeaaO.opens_slice Try.underlying22 (by kernel_rfl) Go.Proofs.YtcongfiojbajeaaK.opens_doing
set_option maxRecDepth 100000 in
theorem lifted (os : Os) (started : os.Started) (H : Type) (enc : TypeId × Value → H) :
    ReturnsInHanded {} Try.checked os 4 .any (Rows.diskLimitsSpec.pre6 enc Try.prog Try.f4 Rows.diskLimitsRow.domain false) (Rows.diskLimitsSpec.post enc Try.prog Try.f4 false true false false) := by
  refine returnsInHanded_of_change_sized (C := Try.checked) own started (by kernel_rfl) Try.func4
    (ChangeSpec.witness6 (enc := enc) (C := Try.checked) false ⟨#[], #[.slice none 0 0, .int .i64 0], []⟩ 8 (by kernel_rfl) (by kernel_rfl) (by kernel_rfl) (by kernel_rfl)) ?_
  intro W base args ds gs before hval0 hW hcnd hsz0 _
  have hsz : (DataW.weightsEach Try.prog (Try.f4.params.toList ++ Rows.diskLimitsSpec.plain.varTypes Try.prog) (ds ++ gs)).all (· ≤ reachBytes) = true := hsz0
  have hval : ∀ (j : Nat) t v, Try.f4.params[j]? = some t → args[j]? = some v → Value.okWide Try.prog W .any base t v := hval0
  have hW' := hW
  obtain ⟨p, q, hA0, hV, rfl, hfz, hnd⟩ := hW
  have hA : DataW.TrodAll enc Try.prog W 0 (fun _ => true) true Try.f4.params.toList args.toList ds p := hA0
  rw [Try.params4] at hA hval hsz
  obtain ⟨v0, vs0, d0, ds0, p0, q0, hargs, rfl, rfl, h0, r0⟩ := trodAll_cons hA
  obtain ⟨v1, vs1, d1, ds1, p1, q1, rfl, rfl, rfl, h1, r1⟩ := trodAll_cons r0
  obtain ⟨rfl, rfl, rfl⟩ := trodAll_nil r1
  obtain rfl : args = #[v0, v1] := by cases args; simp_all
  obtain ⟨rfl, rfl⟩ := trodVars_none hV
  obtain ⟨a0, len0, cap0, rfl⟩ := okWide_slice Try.underlying22 (hval 0 22 v0 rfl rfl)
  have k0 := h0
  have lt0 : ∀ x ∈ p0, x.block < W.heap.size := by obtain ⟨m, hm⟩ := k0; exact DataW.trod_lt m _ _ _ hm
  obtain ⟨l0, ⟨A0, c0, e0, hc0, hr0⟩, ok0⟩ := (fun (z : DataW.Trod enc Try.prog W 0 (fun _ => true) true 22 (.slice a0 len0 cap0) d0 p0) => by obtain ⟨fuel, hf⟩ := z; exact opens0 H enc W 0 _ true fuel _ _ hf : _ → ∃ l, (Kd.slice 34 Go.Proofs.YtcongfiojbajeaaK.kDoing).K W l [.slice a0 len0 cap0] ∧ (fun l => l.length ≤ maxLen ∧ ∀ x ∈ l, x.nme.size ≤ maxLen ∧ x.tn.size ≤ maxLen ∧ x.s.size ≤ maxLen) l) h0
  simp only [List.cons.injEq, Value.slice.injEq, and_true] at e0
  obtain ⟨rfl, rfl, rfl⟩ := e0
  obtain ⟨a1, rfl, rfl, rfl, w1⟩ := open_int Try.underlying3 (hval 1 3 v1 rfl rfl) h1
  clear hA0 hval0 hsz0 hsz
  refine ((fun (A : Option Addr) (c : Nat) (l : List Go.Proofs.YtcongfiojbajeaaK.Doing) (room : Int) (W : World) (hr : Kd.C Go.Proofs.YtcongfiojbajeaaK.kDoing W A l.length l) (hc : l.length ≤ c) (ok : l.length ≤ maxLen ∧ ∀ x ∈ l, x.nme.size ≤ maxLen ∧ x.tn.size ≤ maxLen ∧ x.s.size ≤ maxLen) _ => Go.Proofs.YtcongfiojbajeaaK.limits_law A c l room W hr hc ok.2) _ _ l0 a1 W hr0 hc0 ok0 w1).mono fun e W' ⟨he, bel⟩ => ?_
  subst he
  exact ⟨_, rfl, _, _, _, [], _, [], hW', trodAll_mk1 (shut_bool Try.underlying4 _), (trodAll_cons_mk (Below.trod laidOut (by kernel_rfl) (of_decide_eq_true (by kernel_rfl)) k0 bel lt0) (trodAll_cons_mk (shut_int Try.underlying3 w1) trodAll_mk0)), rfl, bel.frame _, fun h => by cases h⟩
theorem over : Rows.diskLimitsRow.holds Try.pinned (OpenSpec.ofChange Rows.diskLimitsSpec) :=
  OpenClaim.holds_of_wide 4 Try.f4 rfl rfl rfl rfl rfl rfl rfl ⟨rfl, rfl, rfl, rfl, rfl⟩ rfl rfl rfl rfl rfl (by kernel_rfl) Try.func4 (by kernel_rfl)
    (of_decide_eq_true (by kernel_rfl)) (by unfold Func.isWrapper; first | (rw [if_pos (by decide +kernel)]; kernel_rfl) | (rw [if_neg (by decide +kernel)]; exact ⟨rfl, rfl⟩))
    (fun os started H enc _ => lifted os started H enc)
theorem proved : Rows.DiskLimitsSaid := over
#print axioms proved
end Go.Proofs.Ytcongfiojbajeaa.diskLimits
namespace Go.Proofs.Ytcongfiojbajeaa
/-- The row, under a short name, for the claim. -/
theorem diskLimits_holds : Rows.DiskLimitsSaid := diskLimits.proved
end Go.Proofs.Ytcongfiojbajeaa
