/- NameTexts, the walk: which texts may be names and paths, how they are small, fixed, and cut, as the document has it: of any text. Conditions: the text has fewer than 140737488351233 bytes. -/
import Derived.Test.YtojeadkhahmllaaDoorLibNameTexts
import Derived.WalkKit
import Derived.Lib.Hide
namespace Go.Proofs.YtojeadkhahmllaaDoor.XNameTexts
open Go.RowKit Go.Proofs.YtojeadkhahmllaaDoorW.PrintWords Go.Proofs.YtojeadkhahmllaaDoorW.PrintLast Go.Proofs.YtojeadkhahmllaaDoorW.PrintMore Go.Proofs.YtojeadkhahmllaaDoorB
set_option linter.unusedVariables false
set_option linter.unusedSimpArgs false
set_option maxHeartbeats 4000000 in
set_option maxRecDepth 100000 in
theorem texts_walk (s : ByteArray) (w : World) : Calls Tryd.prog 4 #[.string s] w fun e w' => e = .returned (.bool true) ∧ Below w.heap.size w w' := by
  have hsz := few_size s
  have h1 := few_some s
  generalize fewB s = t at hsz h1
  obtain ⟨k2, h2⟩ := (psplit_ev t (by omega)).rounds
  obtain ⟨k3, h3⟩ := (rsplit_ev t (by omega)).rounds
  generalize cutP t (lst t.data.toList t.size) = ab at h2 h3
  obtain ⟨a, b⟩ := ab
  obtain ⟨k5, h5⟩ := (plegal_ev t (by omega)).rounds
  obtain ⟨k6, h6⟩ := (rlegal_ev t (by omega)).rounds
  have h7 : name_Fold.f t = some (foldB t) := by unfold name_Fold.f; rw [if_pos (by omega)]
  obtain ⟨k8, h8⟩ := (rfold_ev t (by omega)).rounds
  have h9 : name_Fix.f t = some (fixB t) := by unfold name_Fix.f; rw [if_pos (by omega)]
  obtain ⟨k10, h10⟩ := (rfix_ev t (by omega)).rounds
  have hfs := fix_size t
  obtain ⟨k11, h11⟩ := (plegal_ev (fixB t) (by omega)).rounds
  rw [legal_fixed] at h11
  obtain ⟨pa, hp1, hp2⟩ := paths_ev t (by omega)
  obtain ⟨k12, h12⟩ := hp1.rounds
  obtain ⟨k13, h13⟩ := hp2.rounds
  generalize legalB t = lg at h5 h6
  generalize foldB t = fo at h7 h8
  generalize fixB t = fi at h9 h10 h11 hfs
  have H1 := Lib.hid h1
  have H2 := Lib.hid h2
  have H3 := Lib.hid h3
  have H5 := Lib.hid h5
  have H6 := Lib.hid h6
  have H7 := Lib.hid h7
  have H8 := Lib.hid h8
  have H9 := Lib.hid h9
  have H10 := Lib.hid h10
  have H11 := Lib.hid h11
  have H12 := Lib.hid h12
  have H13 := Lib.hid h13
  clear h1 h2 h3 h5 h6 h7 h8 h9 h10 h11 h12 h13 hsz hfs hp1 hp2
  have q1 : (fo.toList == fo.toList) = true := beq_self_eq_true _
  have q2 : (fi.toList == fi.toList) = true := beq_self_eq_true _
  have q3 : (a.toList == a.toList) = true := beq_self_eq_true _
  have q4 : (b.toList == b.toList) = true := beq_self_eq_true _
  cases lg <;> cases pa
  all_goals
    go_enter Tryd.func4, Tryd.ntmps4
    go_wp2_with fail
    refine (arbourlaw14_few.calls s t _ H1.out).mono ?_
    rintro e w1 ⟨rfl, m1, rfl⟩
    have B1 := Lib.hid (pw_below_drewN (Below.refl w.heap.size w) m1)
    generalize w.drewN m1 = w1 at B1 ⊢
    go_wp2_with fail
    refine (name_Split.calls k2 t a b _ H2.out).mono ?_
    rintro e w2 ⟨rfl, hb⟩
    have B2 := Lib.hid (B1.out.trans (hb.mono B1.out.size))
    clear hb B1
    go_wp2_with fail
    refine (arbourref14_Split.calls k3 t a b _ H3.out).mono ?_
    rintro e w3 ⟨rfl, m3, rfl⟩
    have B3 := Lib.hid (pw_below_drewN B2.out m3)
    generalize w2.drewN m3 = w3 at B3 ⊢
    clear B2
    go_wp2_with fail
    refine (arbourlaw14_awake.calls true _ awake_some).mono ?_
    rintro e w4 ⟨rfl, hb⟩
    have B4 := Lib.hid (B3.out.trans (hb.mono B3.out.size))
    clear hb B3
    go_wp2_with fail
    refine (name_Legal.calls k5 t _ _ H5.out).mono ?_
    rintro e w5 ⟨rfl, m5, rfl⟩
    have B5 := Lib.hid (pw_below_drewN B4.out m5)
    generalize w4.drewN m5 = w5 at B5 ⊢
    clear B4
    go_wp2_with fail
    refine (arbourref14_Legal.calls k6 t _ _ H6.out).mono ?_
    rintro e w6 ⟨rfl, m6, rfl⟩
    have B6 := Lib.hid (pw_below_drewN B5.out m6)
    generalize w5.drewN m6 = w6 at B6 ⊢
    clear B5
    go_wp2_with fail
    refine (name_Fold.calls t fo _ H7.out).mono ?_
    rintro e w7 ⟨rfl, hb⟩
    have B7 := Lib.hid (B6.out.trans (hb.mono B6.out.size))
    clear hb B6
    go_wp2_with fail
    refine (arbourref14_Fold.calls k8 t fo _ H8.out).mono ?_
    rintro e w8 ⟨rfl, hb⟩
    have B8 := Lib.hid (B7.out.trans (hb.mono B7.out.size))
    clear hb B7
    go_wp2_with fail
    refine (name_Fix.calls t fi _ H9.out).mono ?_
    rintro e w9 ⟨rfl, hb⟩
    have B9 := Lib.hid (B8.out.trans (hb.mono B8.out.size))
    clear hb B8
    go_wp2_with fail
    refine (arbourref14_Fix.calls k10 t fi _ H10.out).mono ?_
    rintro e w10 ⟨rfl, hb⟩
    have B10 := Lib.hid (B9.out.trans (hb.mono B9.out.size))
    clear hb B9
    go_wp2_with fail
    refine (name_Fix.calls t fi _ H9.out).mono ?_
    rintro e w11 ⟨rfl, hb⟩
    have B11 := Lib.hid (B10.out.trans (hb.mono B10.out.size))
    clear hb B10
    go_wp2_with fail
    refine (name_Legal.calls k11 fi true _ H11.out).mono ?_
    rintro e w12 ⟨rfl, m12, rfl⟩
    have B12 := Lib.hid (pw_below_drewN B11.out m12)
    generalize w11.drewN m12 = w12 at B12 ⊢
    clear B11
    go_wp2_with fail
    refine (name_Path.calls k12 t _ _ H12.out).mono ?_
    rintro e w13 ⟨rfl, hb⟩
    have B13 := Lib.hid (B12.out.trans (hb.mono B12.out.size))
    clear hb B12
    go_wp2_with fail
    refine (arbourref14_Path.calls k13 t _ _ H13.out).mono ?_
    rintro e w14 ⟨rfl, hb⟩
    have B14 := Lib.hid (B13.out.trans (hb.mono B13.out.size))
    clear hb B13
    go_wp2
    go_ret
    exact ⟨rfl, B14.out⟩
end Go.Proofs.YtojeadkhahmllaaDoor.XNameTexts
