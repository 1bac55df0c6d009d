/- DiskNobody, the row: which texts may be names, and what a nil disk answers, at any text and any act. Conditions: none but the form's own. -/
import Derived.Test.YtcojhnjlcphjpaaRows
import Derived.Test.YtcojhnjlcphjpaaDiskNobody
import Derived.WalkKit
import Derived.ProofKit
import Derived.OpenShut
import Derived.ShutString
import Derived.ChangeOld
import Derived.Below
import Derived.SizedLaws
namespace Go.Proofs.Ytcojhnjlcphjpaa.diskNobody
open Go.ChangeShapes Go.WideShapes Go.ChangeAt Go.RowKit
open Go.ChangeMaps (open_string shut_string)
set_option linter.unusedVariables false
set_option linter.unusedSimpArgs false
theorem own : ownKnob Try.prog.godebug = none := by kernel_rfl
theorem laidOut : laidOutB Try.prog = true := by kernel_rfl
set_option maxRecDepth 100000 in
theorem flat1 : ∀ (H : Type) (enc : TypeId × Value → H) (w : World) (base : Nat) (spare : Nat → Bool) (held : Bool) (fuel : Nat) (cs : List Value) (x : DataW H × List MemPlace), DataW.trod enc Try.prog w base spare held fuel 25 cs = some x → ∃ (a1_0 : Int) (a1_1 : ByteArray) (a1_2 : ByteArray) (a1_3 : ByteArray) (a1_4 : Int) (a1_5 : Int) (a1_6 : Int) (a1_7 : Int), cs = [.int .i64 a1_0, .string a1_1, .string a1_2, .string a1_3, .int .i64 a1_4, .int .i64 a1_5, .int .i64 a1_6, .int .i64 a1_7] ∧ (Lit.int .i64 a1_0).wf = true ∧ a1_1.size ≤ maxLen ∧ a1_2.size ≤ maxLen ∧ a1_3.size ≤ maxLen ∧ (Lit.int .i64 a1_4).wf = true ∧ (Lit.int .i64 a1_5).wf = true ∧ (Lit.int .i64 a1_6).wf = true ∧ (Lit.int .i64 a1_7).wf = true := by
  intro H enc w base spare held fuel cs x h
  have z_0 : Try.prog.cellsOf 3 = 1 := by kernel_rfl
  have z_1 : Try.prog.cellsOf 9 = 1 := by kernel_rfl
  have z_2 : Try.prog.cellsOf 23 = 3 := by kernel_rfl
  have z_3 : Try.prog.cellsOf 25 = 8 := by kernel_rfl
  obtain ⟨sx, sn, _, _, sl, sk, sf⟩ := DataW.trod_struct Try.underlying25 h
  rw [z_3] at sl
  match cs, sl with
  | [c0, c1, c2, c3, c4, c5, c6, c7], _ =>
    match sx, sk with
    | [sx0, sx1, sx2, sx3, sx4, sx5], _ =>
      have sh0 := sf 0 _ rfl
      have sh1 := sf 1 _ rfl
      have sh2 := sf 2 _ rfl
      have sh3 := sf 3 _ rfl
      have sh4 := sf 4 _ rfl
      have sh5 := sf 5 _ rfl
      simp only [z_0, z_1, z_2, z_3, List.drop_zero, List.drop_succ_cons, List.take_succ_cons, List.take_zero, List.getElem?_cons_zero, List.getElem?_cons_succ] at sh0 sh1 sh2 sh3 sh4 sh5
      obtain ⟨a1_0, e0, _, w0⟩ := DataW.trod_int Try.underlying3 sh0
      obtain ⟨a1_1, e1, _, w1⟩ := DataW.trod_string Try.underlying9 sh1
      obtain ⟨a1_2, e2, _, w2⟩ := DataW.trod_string Try.underlying9 sh2
      obtain ⟨a1_3, e3, _, w3⟩ := DataW.trod_string Try.underlying9 sh3
      obtain ⟨a1_4, e4, _, w4⟩ := DataW.trod_int Try.underlying3 sh4
      obtain ⟨s5x, s5n, _, _, s5l, s5k, s5f⟩ := DataW.trod_struct Try.underlying23 sh5
      match s5x, s5k with
      | [s5x0, s5x1, s5x2], _ =>
        have s5h0 := s5f 0 _ rfl
        have s5h1 := s5f 1 _ rfl
        have s5h2 := s5f 2 _ rfl
        simp only [z_0, z_1, z_2, z_3, List.drop_zero, List.drop_succ_cons, List.take_succ_cons, List.take_zero, List.getElem?_cons_zero, List.getElem?_cons_succ] at s5h0 s5h1 s5h2
        obtain ⟨a1_5, e5, _, w5⟩ := DataW.trod_int Try.underlying3 s5h0
        obtain ⟨a1_6, e6, _, w6⟩ := DataW.trod_int Try.underlying3 s5h1
        obtain ⟨a1_7, e7, _, w7⟩ := DataW.trod_int Try.underlying3 s5h2
        cases e0; cases e1; cases e2; cases e3; cases e4; cases e5; cases e6; cases e7
        exact ⟨a1_0, a1_1, a1_2, a1_3, a1_4, a1_5, a1_6, a1_7, rfl, w0, w1, w2, w3, w4, w5, w6, w7⟩
set_option maxRecDepth 100000 in
theorem lifted (os : Os) (started : os.Started) (H : Type) (enc : TypeId × Value → H) :
    ReturnsInHanded {} Try.checked os 3 .any (Rows.diskNobodySpec.pre6 enc Try.prog Try.f3 Rows.diskNobodyRow.domain false) (Rows.diskNobodySpec.post enc Try.prog Try.f3 false true false false) := by
  refine returnsInHanded_of_change_sized (C := Try.checked) own started (by kernel_rfl) Try.func3
    (ChangeSpec.witness6 (enc := enc) (C := Try.checked) false ⟨#[], #[.string ByteArray.empty, .agg #[.int .i64 0, .string ByteArray.empty, .string ByteArray.empty, .string ByteArray.empty, .int .i64 0, .int .i64 0, .int .i64 0, .int .i64 0]], []⟩ 8 (by kernel_rfl) (by kernel_rfl) (by kernel_rfl) (by kernel_rfl)) ?_
  intro W base args ds gs before hval0 hW hcnd hsz0 _
  have hsz : (DataW.weightsEach Try.prog (Try.f3.params.toList ++ Rows.diskNobodySpec.plain.varTypes Try.prog) (ds ++ gs)).all (· ≤ reachBytes) = true := hsz0
  have hval : ∀ (j : Nat) t v, Try.f3.params[j]? = some t → args[j]? = some v → Value.okWide Try.prog W .any base t v := hval0
  have hW' := hW
  obtain ⟨p, q, hA0, hV, rfl, hfz, hnd⟩ := hW
  have hA : DataW.TrodAll enc Try.prog W 0 (fun _ => true) true Try.f3.params.toList args.toList ds p := hA0
  rw [Try.params3] at hA hval hsz
  obtain ⟨v0, vs0, d0, ds0, p0, q0, hargs, rfl, rfl, h0, r0⟩ := trodAll_cons hA
  obtain ⟨v1, vs1, d1, ds1, p1, q1, rfl, rfl, rfl, h1, r1⟩ := trodAll_cons r0
  obtain ⟨rfl, rfl, rfl⟩ := trodAll_nil r1
  obtain rfl : args = #[v0, v1] := by cases args; simp_all
  obtain ⟨rfl, rfl⟩ := trodVars_none hV
  obtain ⟨a0, rfl, rfl, rfl, y0⟩ := open_string Try.underlying9 (hval 0 9 v0 rfl rfl) h0
  have w0 : a0.size ≤ 140737488351232 := by
    have z := sized_string hsz (j := 0) (t := 9) rfl rfl
    rw [Array.length_toList] at z
    exact z
  have k1 := h1
  have lt1 : ∀ x ∈ p1, x.block < W.heap.size := by obtain ⟨m, hm⟩ := k1; exact DataW.trod_lt m _ _ _ hm
  obtain ⟨cs1, rfl, _⟩ := okWide_struct Try.underlying25 (hval 1 25 v1 rfl rfl)
  obtain ⟨a1_0, a1_1, a1_2, a1_3, a1_4, a1_5, a1_6, a1_7, e1, ok1⟩ := (fun (z : DataW.Trod enc Try.prog W 0 (fun _ => true) true 25 (.agg cs1) d1 p1) => by obtain ⟨fuel, hf⟩ := z; exact flat1 H enc W 0 _ true fuel _ _ hf : _ → ∃ (a1_0 : Int) (a1_1 : ByteArray) (a1_2 : ByteArray) (a1_3 : ByteArray) (a1_4 : Int) (a1_5 : Int) (a1_6 : Int) (a1_7 : Int), cs1.toList = [.int .i64 a1_0, .string a1_1, .string a1_2, .string a1_3, .int .i64 a1_4, .int .i64 a1_5, .int .i64 a1_6, .int .i64 a1_7] ∧ (Lit.int .i64 a1_0).wf = true ∧ a1_1.size ≤ maxLen ∧ a1_2.size ≤ maxLen ∧ a1_3.size ≤ maxLen ∧ (Lit.int .i64 a1_4).wf = true ∧ (Lit.int .i64 a1_5).wf = true ∧ (Lit.int .i64 a1_6).wf = true ∧ (Lit.int .i64 a1_7).wf = true) h1
  obtain rfl : cs1 = #[.int .i64 a1_0, .string a1_1, .string a1_2, .string a1_3, .int .i64 a1_4, .int .i64 a1_5, .int .i64 a1_6, .int .i64 a1_7] := Array.ext' e1
  clear hA0 hval0 hsz0 hsz
  refine ((fun (s : ByteArray) (k : Int) (nm_ to_ tx : ByteArray) (n a b c : Int) (W : World) (hs : s.size ≤ 140737488351232) _ => Go.Proofs.YtcojhnjlcphjpaaN.walk s hs k n a b c nm_ to_ tx W) a0 a1_0 a1_1 a1_2 a1_3 a1_4 a1_5 a1_6 a1_7 W w0 ok1).mono fun e W' ⟨he, bel⟩ => ?_
  subst he
  exact ⟨_, rfl, _, _, _, [], _, [], hW', trodAll_mk1 (shut_bool Try.underlying4 _), (trodAll_cons_mk (shut_string Try.underlying9 y0) (trodAll_cons_mk (Below.trod laidOut (by kernel_rfl) (of_decide_eq_true (by kernel_rfl)) k1 bel lt1) trodAll_mk0)), rfl, bel.frame _, fun h => by cases h⟩
theorem over : Rows.diskNobodyRow.holds Try.pinned (OpenSpec.ofChange Rows.diskNobodySpec) :=
  OpenClaim.holds_of_wide 3 Try.f3 rfl rfl rfl rfl rfl rfl rfl ⟨rfl, rfl, rfl, rfl, rfl⟩ rfl rfl rfl rfl rfl (by kernel_rfl) Try.func3 (by kernel_rfl)
    (of_decide_eq_true (by kernel_rfl)) (by unfold Func.isWrapper; first | (rw [if_pos (by decide +kernel)]; kernel_rfl) | (rw [if_neg (by decide +kernel)]; exact ⟨rfl, rfl⟩))
    (fun os started H enc _ => lifted os started H enc)
theorem proved : Rows.DiskNobodySaid := over
#print axioms proved
end Go.Proofs.Ytcojhnjlcphjpaa.diskNobody
namespace Go.Proofs.Ytcojhnjlcphjpaa
/-- The row, under a short name, for the claim. -/
theorem diskNobody_holds : Rows.DiskNobodySaid := diskNobody.proved
end Go.Proofs.Ytcojhnjlcphjpaa
