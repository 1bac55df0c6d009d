/- WalNobody, the card: a nil log, no disk, a dead one, segments of no bytes: whatever texts and number come in. Conditions: the listed variables of Go's library, tied to its text. -/
import Derived.LaidMore
import Derived.Lay
import Derived.LaidHandle
import Derived.SevenTiedAt
import Derived.Stop.Joined
import Derived.Test.YtcojhnjlcphjpacGreatDoorTie
import Derived.Test.YtcojhnjlcphjpacGreatDoorCards
import Derived.Test.YtcojhnjlcphjpacGreatDoorRows
import Derived.Test.YtcojhnjlcphjpacGreatDoorWalNobody
import Derived.Test.YtcojhnjlcphjpacGreatDoorOpen
import Derived.WalkKit
import Derived.ProofKit
import Derived.OpenShut
import Derived.ShutString
import Derived.ChangeOld
import Derived.Below
import Derived.SizedLaws
namespace Go.Proofs.YtcojhnjlcphjpacGreatDoor.walNobody
open Go.ChangeShapes Go.WideShapes Go.ChangeAt Go.RowKit Go.Proofs.YtcojhnjlcphjpacGreatDoorW.PrintWords
open Go.ChangeMaps (open_string shut_string)
set_option linter.unusedVariables false
set_option linter.unusedSimpArgs false
theorem own : ownKnob Tryz.prog.godebug = none := by kernel_rfl
theorem laidOut : laidOutB Tryz.prog = true := by kernel_rfl
theorem opens0 : Go.Proofs.YtcojhnjlcphjpacGreatDoorO.Opens Tryz.prog 22 (Kd.slice 9 Kd.string) (fun l => l.length ≤ maxLen ∧ ∀ x ∈ l, x.size ≤ maxLen) := Go.Proofs.YtcojhnjlcphjpacGreatDoorO.opens_slice Tryz.underlying22 (by kernel_rfl) (Go.Proofs.YtcojhnjlcphjpacGreatDoorO.opens_string Tryz.underlying9)
theorem size_of_var {W : World} {n : String} {cs : Array Value} (h : W.var? Tryz.prog n = some cs) : 1 ≤ W.heap.size := by
  unfold World.var? at h
  cases hg : Tryz.prog.globalNamed n with
  | none => rw [hg] at h; cases h
  | some g =>
    rw [hg] at h
    have h : (match W.heap[g]? with | some (.cells cs _ _) => some cs | _ => none : Option (Array Value)) = some cs := h
    cases ho : W.heap[g]? with
    | none => rw [ho] at h; cases h
    | some o => have := (Array.getElem?_eq_some_iff.1 ho).1; omega
theorem hSize {W : World} (h : laidMetH Tryz.prog Rows.walNobodyRow.laid W) : 1 ≤ W.heap.size := by
  rw [MakeChecks.laidMetH_plain _ _ _ (by kernel_rfl)] at h
  obtain ⟨ps, ⟨g', t', cs, fuel, p, q, hg', ht', hvar, hd, _, _⟩, _⟩ := h
  exact size_of_var hvar
set_option maxRecDepth 100000 in
theorem lifted (os : Os) (started : os.Started) (H : Type) (enc : TypeId × Value → H) :
    ReturnsInHanded {} Tryz.checked os 3 .any (fun w args => (Rows.walNobodySpec.pre enc Tryz.prog Tryz.f3 Rows.walNobodyRow.domain false w args ∧ laidMetH Tryz.prog Rows.walNobodyRow.laid w) ∧ sizedMet enc Tryz.prog Tryz.f3 (OpenSpec.ofChange Rows.walNobodySpec) false w args) (Rows.walNobodySpec.post enc Tryz.prog Tryz.f3 false true false false) := by
  refine returnsInHanded_of_change_and (C := Tryz.checked) (X := fun w _ => laidMetH Tryz.prog Rows.walNobodyRow.laid w) (fun _ _ _ hh h => h.of_heap hh) own started (by kernel_rfl) Tryz.func3
    (ChangeSpec.witness_shaped (enc := enc) (C := Tryz.checked) (os := os) (X := fun w _ => laidMetH Tryz.prog Rows.walNobodyRow.laid w) false (World.laidAll Tryz.prog os Rows.walNobodyRow.laid) #[.slice none 0 0, .int .i64 0] 8 (World.laidAll_os _ _ _)
      (World.shaped_of_ZipB (by kernel_rfl) (by kernel_rfl)) (by kernel_rfl) (by kernel_rfl) (by kernel_rfl)
      (by rw [MakeChecks.laidMetH_plain _ _ _ (by kernel_rfl)]; exact laidMet_laidAll _ (by kernel_rfl) (by kernel_rfl))) ?_
  intro W base args ds gs before hval0 hW hcnd hsz0 hLaid _
  have hsz : (DataW.weightsEach Tryz.prog (Tryz.f3.params.toList ++ Rows.walNobodySpec.plain.varTypes Tryz.prog) (ds ++ gs)).all (· ≤ reachBytes) = true := hsz0
  have hval : ∀ (j : Nat) t v, Tryz.f3.params[j]? = some t → args[j]? = some v → Value.okWide Tryz.prog W .any base t v := hval0
  have hW' := hW
  obtain ⟨p, q, hA0, hV, rfl, hfz, hnd⟩ := hW
  have hA : DataW.TrodAll enc Tryz.prog W 0 (fun _ => true) true Tryz.f3.params.toList args.toList ds p := hA0
  rw [Tryz.params3] at hA hval hsz
  obtain ⟨v0, vs0, d0, ds0, p0, q0, hargs, rfl, rfl, h0, r0⟩ := trodAll_cons hA
  obtain ⟨v1, vs1, d1, ds1, p1, q1, rfl, rfl, rfl, h1, r1⟩ := trodAll_cons r0
  obtain ⟨rfl, rfl, rfl⟩ := trodAll_nil r1
  obtain rfl : args = #[v0, v1] := by cases args; simp_all
  obtain ⟨rfl, rfl⟩ := trodVars_none hV
  obtain ⟨a0, len0, cap0, rfl⟩ := okWide_slice Tryz.underlying22 (hval 0 22 v0 rfl rfl)
  have k0 := h0
  have lt0 : ∀ x ∈ p0, x.block < W.heap.size := by obtain ⟨m, hm⟩ := k0; exact DataW.trod_lt m _ _ _ hm
  obtain ⟨l0, ⟨A0, c0, e0, hc0, hr0⟩, ok0⟩ := (fun (z : DataW.Trod enc Tryz.prog W 0 (fun _ => true) true 22 (.slice a0 len0 cap0) d0 p0) => by obtain ⟨fuel, hf⟩ := z; exact opens0 H enc W 0 _ true fuel _ _ hf : _ → ∃ l, (Kd.slice 9 Kd.string).K W l [.slice a0 len0 cap0] ∧ (fun l => l.length ≤ maxLen ∧ ∀ x ∈ l, x.size ≤ maxLen) l) h0
  simp only [List.cons.injEq, Value.slice.injEq, and_true] at e0
  obtain ⟨rfl, rfl, rfl⟩ := e0
  obtain ⟨a1, rfl, rfl, rfl, w1⟩ := open_int Tryz.underlying3 (hval 1 3 v1 rfl rfl) h1
  clear hA0 hval0 hsz0 hsz
  refine ((fun (A : Option Addr) (c : Nat) (l : List ByteArray) (n : Int) (_ : World) (hr : Kd.C Kd.string W A l.length l) (hc : l.length ≤ c) (_ : l.length ≤ maxLen ∧ ∀ x ∈ l, x.size ≤ maxLen) (hn : (Lit.int .i64 n).wf = true) => Go.Proofs.YtcojhnjlcphjpacGreatDoorM.walk A c l n W (hSize hLaid) hr hc hn) _ _ l0 a1 W hr0 hc0 ok0 w1).mono fun e W' ⟨he, bel⟩ => ?_
  subst he
  exact ⟨_, rfl, _, _, _, [], _, [], hW', trodAll_mk1 (shut_bool Tryz.underlying4 _), (trodAll_cons_mk (Below.trod laidOut (by kernel_rfl) (of_decide_eq_true (by kernel_rfl)) k0 bel lt0) (trodAll_cons_mk (shut_int Tryz.underlying3 w1) trodAll_mk0)), rfl, bel.frame _, fun h => by cases h⟩
theorem over : Rows.walNobodyRow.holds Tryz.pinned (OpenSpec.ofChange Rows.walNobodySpec) :=
  OpenClaim.holds_of_wide 3 Tryz.f3 rfl rfl rfl rfl rfl rfl rfl ⟨rfl, rfl, rfl, rfl, rfl⟩ rfl rfl rfl rfl rfl (by kernel_rfl) Tryz.func3 (by kernel_rfl)
    (of_decide_eq_true (by kernel_rfl)) (by unfold Func.isWrapper; first | (rw [if_pos (by decide +kernel)]; kernel_rfl) | (rw [if_neg (by decide +kernel)]; exact ⟨rfl, rfl⟩))
    (fun os started H enc _ => lifted os started H enc)
theorem card : Rows.WalNobodyCardSaid :=
  Claim7.holds_tied_plain_at .later [] [.data, .data, .data, .sentinel, .sentinel] true (true, "8559f62c67456f8036b9e5988ed90c2f740fa5bd53c89707285c5e28ca5478cc") true over (fun _ h => by cases h) (by kernel_rfl) (fun _ h => by cases h) walNobody_row_tie rfl ⟨rfl, rfl⟩ (by kernel_rfl) rfl
    (fun f fn hf hfn => by
      obtain rfl : f = 3 := Option.some.inj ((show Tryz.prog.funcNamed "arbour/arbourlaw07.WalNobody" = some 3 by kernel_rfl).symm.trans hf) |>.symm
      obtain rfl : fn = Tryz.f3 := (Option.some.inj (Tryz.func3.symm.trans hfn)).symm
      exact ⟨by kernel_rfl, fun j t ht => by
        rw [Tryz.params3] at ht
        have hm : t ∈ [22, 3] := by simpa using Array.mem_of_getElem? ht
        have hall : ([22, 3].all fun u => !Tryz.prog.wantsStandIn u) = true := by kernel_rfl
        exact (show Tryz.prog.wantsStandIn t = false by simpa using List.all_eq_true.1 hall t hm)⟩)
    (by kernel_rfl)
theorem proved : Rows.WalNobodyCardSaid := card
#print axioms proved
end Go.Proofs.YtcojhnjlcphjpacGreatDoor.walNobody
namespace Go.Proofs.YtcojhnjlcphjpacGreatDoor
/-- The row, under a short name, for the claim. -/
theorem walNobody_holds : Rows.WalNobodyCardSaid := walNobody.proved
end Go.Proofs.YtcojhnjlcphjpacGreatDoor
