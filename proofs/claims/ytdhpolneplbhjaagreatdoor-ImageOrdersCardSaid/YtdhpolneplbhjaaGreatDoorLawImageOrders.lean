/- ImageOrders, the card: paths are ordered name by name; images are the same by paths, folders and digests: of any two files. Conditions: the listed variables of Go's library, tied to its text. -/
import Derived.LaidMore
import Derived.Lay
import Derived.LaidHandle
import Derived.SevenTiedAt
import Derived.Stop.Joined
import Derived.Test.YtdhpolneplbhjaaGreatDoorTie
import Derived.Test.YtdhpolneplbhjaaGreatDoorCards
import Derived.Test.YtdhpolneplbhjaaGreatDoorRows
import Derived.Test.YtdhpolneplbhjaaGreatDoorImgLaw
import Derived.WalkKit
import Derived.ProofKit
import Derived.OpenShut
import Derived.ShutString
import Derived.ChangeOld
import Derived.Below
import Derived.SizedLaws
namespace Go.Proofs.YtdhpolneplbhjaaGreatDoor.imageOrders
open Go.ChangeShapes Go.WideShapes Go.ChangeAt Go.RowKit Go.Proofs.YtdhpolneplbhjaaGreatDoorW.PrintWords
open Go.ChangeMaps (open_string shut_string)
set_option linter.unusedVariables false
set_option linter.unusedSimpArgs false
theorem own : ownKnob Tryz.prog.godebug = none := by kernel_rfl
theorem laidOut : laidOutB Tryz.prog = true := by kernel_rfl
set_option maxRecDepth 100000 in
theorem flat0 : ∀ (H : Type) (enc : TypeId × Value → H) (w : World) (base : Nat) (spare : Nat → Bool) (held : Bool) (fuel : Nat) (cs : List Value) (x : DataW H × List MemPlace), DataW.trod enc Tryz.prog w base spare held fuel 24 cs = some x → ∃ (a0_0 : ByteArray) (a0_1 : Bool) (a0_2 : Int) (a0_3 : ByteArray) (a0_4 : Int), cs = [.string a0_0, .bool a0_1, .int .u64 a0_2, .string a0_3, .int .i64 a0_4] ∧ a0_0.size ≤ maxLen ∧ (True ∨ a0_1 = true) ∧ (Lit.int .u64 a0_2).wf = true ∧ a0_3.size ≤ maxLen ∧ (Lit.int .i64 a0_4).wf = true := by
  intro H enc w base spare held fuel cs x h
  have z_0 : Tryz.prog.cellsOf 9 = 1 := by kernel_rfl
  have z_1 : Tryz.prog.cellsOf 4 = 1 := by kernel_rfl
  have z_2 : Tryz.prog.cellsOf 22 = 1 := by kernel_rfl
  have z_3 : Tryz.prog.cellsOf 3 = 1 := by kernel_rfl
  have z_4 : Tryz.prog.cellsOf 24 = 5 := by kernel_rfl
  obtain ⟨sx, sn, _, _, sl, sk, sf⟩ := DataW.trod_struct Tryz.underlying24 h
  rw [z_4] at sl
  match cs, sl with
  | [c0, c1, c2, c3, c4], _ =>
    match sx, sk with
    | [sx0, sx1, sx2, sx3, sx4], _ =>
      have sh0 := sf 0 _ rfl
      have sh1 := sf 1 _ rfl
      have sh2 := sf 2 _ rfl
      have sh3 := sf 3 _ rfl
      have sh4 := sf 4 _ rfl
      simp only [z_0, z_1, z_2, z_3, z_4, List.drop_zero, List.drop_succ_cons, List.take_succ_cons, List.take_zero, List.getElem?_cons_zero, List.getElem?_cons_succ] at sh0 sh1 sh2 sh3 sh4
      obtain ⟨a0_0, e0, _, w0⟩ := DataW.trod_string Tryz.underlying9 sh0
      obtain ⟨a0_1, e1, w1⟩ := DataW.trod_bool Tryz.underlying4 sh1
      obtain ⟨a0_2, e2, _, w2⟩ := DataW.trod_int Tryz.underlying22 sh2
      obtain ⟨a0_3, e3, _, w3⟩ := DataW.trod_string Tryz.underlying9 sh3
      obtain ⟨a0_4, e4, _, w4⟩ := DataW.trod_int Tryz.underlying3 sh4
      cases e0; cases e1; cases e2; cases e3; cases e4
      exact ⟨a0_0, a0_1, a0_2, a0_3, a0_4, rfl, w0, .inl trivial, w2, w3, w4⟩
set_option maxRecDepth 100000 in
theorem flat1 : ∀ (H : Type) (enc : TypeId × Value → H) (w : World) (base : Nat) (spare : Nat → Bool) (held : Bool) (fuel : Nat) (cs : List Value) (x : DataW H × List MemPlace), DataW.trod enc Tryz.prog w base spare held fuel 24 cs = some x → ∃ (a1_0 : ByteArray) (a1_1 : Bool) (a1_2 : Int) (a1_3 : ByteArray) (a1_4 : Int), cs = [.string a1_0, .bool a1_1, .int .u64 a1_2, .string a1_3, .int .i64 a1_4] ∧ a1_0.size ≤ maxLen ∧ (True ∨ a1_1 = true) ∧ (Lit.int .u64 a1_2).wf = true ∧ a1_3.size ≤ maxLen ∧ (Lit.int .i64 a1_4).wf = true := by
  intro H enc w base spare held fuel cs x h
  have z_0 : Tryz.prog.cellsOf 9 = 1 := by kernel_rfl
  have z_1 : Tryz.prog.cellsOf 4 = 1 := by kernel_rfl
  have z_2 : Tryz.prog.cellsOf 22 = 1 := by kernel_rfl
  have z_3 : Tryz.prog.cellsOf 3 = 1 := by kernel_rfl
  have z_4 : Tryz.prog.cellsOf 24 = 5 := by kernel_rfl
  obtain ⟨sx, sn, _, _, sl, sk, sf⟩ := DataW.trod_struct Tryz.underlying24 h
  rw [z_4] at sl
  match cs, sl with
  | [c0, c1, c2, c3, c4], _ =>
    match sx, sk with
    | [sx0, sx1, sx2, sx3, sx4], _ =>
      have sh0 := sf 0 _ rfl
      have sh1 := sf 1 _ rfl
      have sh2 := sf 2 _ rfl
      have sh3 := sf 3 _ rfl
      have sh4 := sf 4 _ rfl
      simp only [z_0, z_1, z_2, z_3, z_4, List.drop_zero, List.drop_succ_cons, List.take_succ_cons, List.take_zero, List.getElem?_cons_zero, List.getElem?_cons_succ] at sh0 sh1 sh2 sh3 sh4
      obtain ⟨a1_0, e0, _, w0⟩ := DataW.trod_string Tryz.underlying9 sh0
      obtain ⟨a1_1, e1, w1⟩ := DataW.trod_bool Tryz.underlying4 sh1
      obtain ⟨a1_2, e2, _, w2⟩ := DataW.trod_int Tryz.underlying22 sh2
      obtain ⟨a1_3, e3, _, w3⟩ := DataW.trod_string Tryz.underlying9 sh3
      obtain ⟨a1_4, e4, _, w4⟩ := DataW.trod_int Tryz.underlying3 sh4
      cases e0; cases e1; cases e2; cases e3; cases e4
      exact ⟨a1_0, a1_1, a1_2, a1_3, a1_4, rfl, w0, .inl trivial, w2, w3, w4⟩
theorem size_of_var {W : World} {n : String} {cs : Array Value} (h : W.var? Tryz.prog n = some cs) : 1 ≤ W.heap.size := by
  unfold World.var? at h
  cases hg : Tryz.prog.globalNamed n with
  | none => rw [hg] at h; cases h
  | some g =>
    rw [hg] at h
    have h : (match W.heap[g]? with | some (.cells cs _ _) => some cs | _ => none : Option (Array Value)) = some cs := h
    cases ho : W.heap[g]? with
    | none => rw [ho] at h; cases h
    | some o => have := (Array.getElem?_eq_some_iff.1 ho).1; omega
theorem hSize {W : World} (h : laidMetH Tryz.prog Rows.imageOrdersRow.laid W) : 1 ≤ W.heap.size := by
  rw [MakeChecks.laidMetH_plain _ _ _ (by kernel_rfl)] at h
  obtain ⟨ps, ⟨g', t', cs, fuel, p, q, hg', ht', hvar, hd, _, _⟩, _⟩ := h
  exact size_of_var hvar
set_option maxRecDepth 100000 in
theorem lifted (os : Os) (started : os.Started) (H : Type) (enc : TypeId × Value → H) :
    ReturnsInHanded {} Tryz.checked os 3 .any (fun w args => (Rows.imageOrdersSpec.pre enc Tryz.prog Tryz.f3 Rows.imageOrdersRow.domain false w args ∧ laidMetH Tryz.prog Rows.imageOrdersRow.laid w) ∧ sizedMet enc Tryz.prog Tryz.f3 (OpenSpec.ofChange Rows.imageOrdersSpec) false w args) (Rows.imageOrdersSpec.post enc Tryz.prog Tryz.f3 false true false false) := by
  refine returnsInHanded_of_change_and (C := Tryz.checked) (X := fun w _ => laidMetH Tryz.prog Rows.imageOrdersRow.laid w) (fun _ _ _ hh h => h.of_heap hh) own started (by kernel_rfl) Tryz.func3
    (ChangeSpec.witness_shaped (enc := enc) (C := Tryz.checked) (os := os) (X := fun w _ => laidMetH Tryz.prog Rows.imageOrdersRow.laid w) false (World.laidAll Tryz.prog os Rows.imageOrdersRow.laid) #[.agg #[.string ByteArray.empty, .bool false, .int .u64 0, .string ByteArray.empty, .int .i64 0], .agg #[.string ByteArray.empty, .bool false, .int .u64 0, .string ByteArray.empty, .int .i64 0]] 8 (World.laidAll_os _ _ _)
      (World.shaped_of_ZipB (by kernel_rfl) (by kernel_rfl)) (by kernel_rfl) (by kernel_rfl) (by kernel_rfl)
      (by rw [MakeChecks.laidMetH_plain _ _ _ (by kernel_rfl)]; exact laidMet_laidAll _ (by kernel_rfl) (by kernel_rfl))) ?_
  intro W base args ds gs before hval0 hW hcnd hsz0 hLaid _
  have hsz : (DataW.weightsEach Tryz.prog (Tryz.f3.params.toList ++ Rows.imageOrdersSpec.plain.varTypes Tryz.prog) (ds ++ gs)).all (· ≤ reachBytes) = true := hsz0
  have hval : ∀ (j : Nat) t v, Tryz.f3.params[j]? = some t → args[j]? = some v → Value.okWide Tryz.prog W .any base t v := hval0
  have hW' := hW
  obtain ⟨p, q, hA0, hV, rfl, hfz, hnd⟩ := hW
  have hA : DataW.TrodAll enc Tryz.prog W 0 (fun _ => true) true Tryz.f3.params.toList args.toList ds p := hA0
  rw [Tryz.params3] at hA hval hsz
  obtain ⟨v0, vs0, d0, ds0, p0, q0, hargs, rfl, rfl, h0, r0⟩ := trodAll_cons hA
  obtain ⟨v1, vs1, d1, ds1, p1, q1, rfl, rfl, rfl, h1, r1⟩ := trodAll_cons r0
  obtain ⟨rfl, rfl, rfl⟩ := trodAll_nil r1
  obtain rfl : args = #[v0, v1] := by cases args; simp_all
  obtain ⟨rfl, rfl⟩ := trodVars_none hV
  have k0 := h0
  have lt0 : ∀ x ∈ p0, x.block < W.heap.size := by obtain ⟨m, hm⟩ := k0; exact DataW.trod_lt m _ _ _ hm
  obtain ⟨cs0, rfl, _⟩ := okWide_struct Tryz.underlying24 (hval 0 24 v0 rfl rfl)
  obtain ⟨a0_0, a0_1, a0_2, a0_3, a0_4, e0, ok0⟩ := (fun (z : DataW.Trod enc Tryz.prog W 0 (fun _ => true) true 24 (.agg cs0) d0 p0) => by obtain ⟨fuel, hf⟩ := z; exact flat0 H enc W 0 _ true fuel _ _ hf : _ → ∃ (a0_0 : ByteArray) (a0_1 : Bool) (a0_2 : Int) (a0_3 : ByteArray) (a0_4 : Int), cs0.toList = [.string a0_0, .bool a0_1, .int .u64 a0_2, .string a0_3, .int .i64 a0_4] ∧ a0_0.size ≤ maxLen ∧ (True ∨ a0_1 = true) ∧ (Lit.int .u64 a0_2).wf = true ∧ a0_3.size ≤ maxLen ∧ (Lit.int .i64 a0_4).wf = true) h0
  obtain rfl : cs0 = #[.string a0_0, .bool a0_1, .int .u64 a0_2, .string a0_3, .int .i64 a0_4] := Array.ext' e0
  have k1 := h1
  have lt1 : ∀ x ∈ p1, x.block < W.heap.size := by obtain ⟨m, hm⟩ := k1; exact DataW.trod_lt m _ _ _ hm
  obtain ⟨cs1, rfl, _⟩ := okWide_struct Tryz.underlying24 (hval 1 24 v1 rfl rfl)
  obtain ⟨a1_0, a1_1, a1_2, a1_3, a1_4, e1, ok1⟩ := (fun (z : DataW.Trod enc Tryz.prog W 0 (fun _ => true) true 24 (.agg cs1) d1 p1) => by obtain ⟨fuel, hf⟩ := z; exact flat1 H enc W 0 _ true fuel _ _ hf : _ → ∃ (a1_0 : ByteArray) (a1_1 : Bool) (a1_2 : Int) (a1_3 : ByteArray) (a1_4 : Int), cs1.toList = [.string a1_0, .bool a1_1, .int .u64 a1_2, .string a1_3, .int .i64 a1_4] ∧ a1_0.size ≤ maxLen ∧ (True ∨ a1_1 = true) ∧ (Lit.int .u64 a1_2).wf = true ∧ a1_3.size ≤ maxLen ∧ (Lit.int .i64 a1_4).wf = true) h1
  obtain rfl : cs1 = #[.string a1_0, .bool a1_1, .int .u64 a1_2, .string a1_3, .int .i64 a1_4] := Array.ext' e1
  clear hA0 hval0 hsz0 hsz
  refine ((fun (p : ByteArray) (d : Bool) (i : Int) (g : ByteArray) (n : Int) (p' : ByteArray) (d' : Bool) (i' : Int) (g' : ByteArray) (n' : Int) (_ : World) (ok : p.size ≤ maxLen ∧ _) (ok' : p'.size ≤ maxLen ∧ _) => Go.Proofs.YtdhpolneplbhjaaGreatDoorG.walk p d i g n p' d' i' g' n' ok.1 ok'.1 W (hSize hLaid)) a0_0 a0_1 a0_2 a0_3 a0_4 a1_0 a1_1 a1_2 a1_3 a1_4 W ok0 ok1).mono fun e W' ⟨he, bel⟩ => ?_
  subst he
  exact ⟨_, rfl, _, _, _, [], _, [], hW', trodAll_mk1 (shut_bool Tryz.underlying4 _), (trodAll_cons_mk (Below.trod laidOut (by kernel_rfl) (of_decide_eq_true (by kernel_rfl)) k0 bel lt0) (trodAll_cons_mk (Below.trod laidOut (by kernel_rfl) (of_decide_eq_true (by kernel_rfl)) k1 bel lt1) trodAll_mk0)), rfl, bel.frame _, fun h => by cases h⟩
theorem over : Rows.imageOrdersRow.holds Tryz.pinned (OpenSpec.ofChange Rows.imageOrdersSpec) :=
  OpenClaim.holds_of_wide 3 Tryz.f3 rfl rfl rfl rfl rfl rfl rfl ⟨rfl, rfl, rfl, rfl, rfl⟩ rfl rfl rfl rfl rfl (by kernel_rfl) Tryz.func3 (by kernel_rfl)
    (of_decide_eq_true (by kernel_rfl)) (by unfold Func.isWrapper; first | (rw [if_pos (by decide +kernel)]; kernel_rfl) | (rw [if_neg (by decide +kernel)]; exact ⟨rfl, rfl⟩))
    (fun os started H enc _ => lifted os started H enc)
theorem card : Rows.ImageOrdersCardSaid :=
  Claim7.holds_tied_plain_at .later [] [.data, .data, .data, .data, .pinned] true (true, "3bc66ce3f01a0ced9c87cb43d96e7d92e9f37ae7000bd280017134d8c4e0e9ed") false over (fun _ h => by cases h) (by kernel_rfl) (fun _ h => by cases h) imageOrders_row_tie rfl ⟨rfl, rfl⟩ (by kernel_rfl) rfl
    (fun f fn hf hfn => by
      obtain rfl : f = 3 := Option.some.inj ((show Tryz.prog.funcNamed "arbour/arbourlaw15.ImageOrders" = some 3 by kernel_rfl).symm.trans hf) |>.symm
      obtain rfl : fn = Tryz.f3 := (Option.some.inj (Tryz.func3.symm.trans hfn)).symm
      exact ⟨by kernel_rfl, fun j t ht => by
        rw [Tryz.params3] at ht
        have hm : t ∈ [24, 24] := by simpa using Array.mem_of_getElem? ht
        have hall : ([24, 24].all fun u => !Tryz.prog.wantsStandIn u) = true := by kernel_rfl
        exact (show Tryz.prog.wantsStandIn t = false by simpa using List.all_eq_true.1 hall t hm)⟩)
    (by kernel_rfl)
theorem proved : Rows.ImageOrdersCardSaid := card
#print axioms proved
end Go.Proofs.YtdhpolneplbhjaaGreatDoor.imageOrders
namespace Go.Proofs.YtdhpolneplbhjaaGreatDoor
/-- The row, under a short name, for the claim. -/
theorem imageOrders_holds : Rows.ImageOrdersCardSaid := imageOrders.proved
end Go.Proofs.YtdhpolneplbhjaaGreatDoor
