/- slices.Compare of two rows of texts. Conditions: the rows lie in the world. -/
import Derived.Test.YtdhpolneplbhjaaGreatDoorRows
import Derived.Test.YtdhpolneplbhjaaGreatDoorWWords
import Derived.Test.YtdhpolneplbhjaaGreatDoorWMore
import Derived.WalkKit
import Derived.ProofKit
import Derived.Below
namespace Go.Proofs.YtdhpolneplbhjaaGreatDoorG
open Go Go.RowKit Go.Proofs.YtdhpolneplbhjaaGreatDoorW.PrintWords Go.Proofs.YtdhpolneplbhjaaGreatDoorW.PrintMore
set_option linter.unusedVariables false
set_option linter.unusedSimpArgs false
def Hid2 (p : Prop) : Prop := p
theorem Hid2.out {p : Prop} (h : Hid2 p) : p := h
def lessB (s t : ByteArray) : Bool := Op.bytesLess s.toList t.toList
/-- Two texts: -1, 0, 1. -/
def cmpB (s t : ByteArray) : Int := if lessB s t then -1 else if lessB t s then 1 else 0
set_option maxRecDepth 100000 in
theorem nan_any (s : ByteArray) (w : World) : Calls Tryz.prog 26 #[.string s] w fun e w' => e = .returned (.bool false) ∧ w = w' := by
  go_enter Tryz.func26, Tryz.ntmps26
  go_wp2
  go_ret
  exact ⟨by simp, rfl⟩
theorem run_gtr (s t : ByteArray) (ty : TypeId) (w : World) : (binOp .gtr ty (.string s) (.string t)).run Tryz.prog w = .ok (.bool (!(Op.bytesLess s.toList t.toList || s.toList == t.toList))) w := by
  simp [binOp, Op.stringOp]
theorem less_not_gt : ∀ (s t : List UInt8), Op.bytesLess s t = false → (!(Op.bytesLess s t || s == t)) = Op.bytesLess t s
  | [], [], _ => rfl
  | [], b :: y, h => by cases h
  | a :: x, [], _ => rfl
  | a :: x, b :: y, h => by
    simp only [Op.bytesLess, Bool.or_eq_false_iff, decide_eq_false_iff_not] at h
    obtain ⟨h1, h2⟩ := h
    by_cases he : a = b
    · subst he
      have h3 : Op.bytesLess x y = false := by simpa using h2
      have ih := less_not_gt x y h3
      rw [h3] at ih
      simp only [Op.bytesLess, h3]
      simp only [Bool.false_or] at ih
      simp [ih, UInt8.lt_irrefl]
    · have hb : b < a := by
        rcases Nat.lt_trichotomy a.toNat b.toNat with h | h | h
        · exact absurd (UInt8.lt_iff_toNat_lt.2 h) h1
        · exact absurd (UInt8.toNat_inj.1 h) he
        · exact UInt8.lt_iff_toNat_lt.2 h
      have h4 : ¬ b < a → False := fun h => h hb
      simp only [Op.bytesLess]
      simp [h1, he, hb]
set_option maxRecDepth 100000 in
theorem cmp_any (s t : ByteArray) (w : World) : Calls Tryz.prog 16 #[.string s, .string t] w fun e w' => e = .returned (.int .i64 (cmpB s t)) ∧ w = w' := by
  by_cases h1 : lessB s t = true
  · have e1 : Op.bytesLess s.toList t.toList = true := h1
    have ec : cmpB s t = -1 := by unfold cmpB; rw [if_pos h1]
    have HC : Hid2 (cmpB s t = -1) := ec
    clear ec h1
    go_enter Tryz.func16, Tryz.ntmps16
    go_wp2_with fail
    refine (nan_any s _).mono ?_
    rintro e w1 ⟨rfl, rfl⟩
    go_wp2_with fail
    refine (nan_any t _).mono ?_
    rintro e w1 ⟨rfl, rfl⟩
    go_wp2
    go_ret
    exact ⟨by rw [HC.out]; rfl, rfl⟩
  · have e1 : Op.bytesLess s.toList t.toList = false := by simpa [lessB] using h1
    by_cases h2 : lessB t s = true
    · have e2 : Op.bytesLess t.toList s.toList = true := h2
      have HC : Hid2 (cmpB s t = 1) := by unfold Hid2 cmpB; rw [if_neg h1, if_pos h2]
      have hg : (!(Op.bytesLess s.toList t.toList || s.toList == t.toList)) = Op.bytesLess t.toList s.toList := less_not_gt _ _ e1
      rw [e2] at hg
      have HG : Hid2 _ := hg
      clear h1 h2 hg
      go_enter Tryz.func16, Tryz.ntmps16
      go_wp2_with fail
      refine (nan_any s _).mono ?_
      rintro e w1 ⟨rfl, rfl⟩
      go_wp2_with fail
      refine (nan_any t _).mono ?_
      rintro e w1 ⟨rfl, rfl⟩
      go_wp2
      rw [run_gtr, HG.out]
      go_wp2
      go_ret
      exact ⟨by rw [HC.out]; rfl, rfl⟩
    · have e2 : Op.bytesLess t.toList s.toList = false := by simpa [lessB] using h2
      have HC : Hid2 (cmpB s t = 0) := by unfold Hid2 cmpB; rw [if_neg h1, if_neg h2]
      have hg : (!(Op.bytesLess s.toList t.toList || s.toList == t.toList)) = Op.bytesLess t.toList s.toList := less_not_gt _ _ e1
      rw [e2] at hg
      have HG : Hid2 _ := hg
      clear h1 h2 hg
      go_enter Tryz.func16, Tryz.ntmps16
      go_wp2_with fail
      refine (nan_any s _).mono ?_
      rintro e w1 ⟨rfl, rfl⟩
      go_wp2_with fail
      refine (nan_any t _).mono ?_
      rintro e w1 ⟨rfl, rfl⟩
      go_wp2
      rw [run_gtr, HG.out]
      go_wp2
      go_ret
      exact ⟨by rw [HC.out]; rfl, rfl⟩
/-- Two rows of texts. -/
def cmpL : List ByteArray → List ByteArray → Int
  | [], [] => 0
  | [], _ :: _ => -1
  | _ :: _, [] => 1
  | s :: l, t :: m => if cmpB s t = 0 then cmpL l m else cmpB s t
theorem cmpL_at : ∀ (l m : List ByteArray) (i : Nat), (∀ j, j < i → ∃ s t, l[j]? = some s ∧ m[j]? = some t ∧ cmpB s t = 0) → cmpL l m = cmpL (l.drop i) (m.drop i)
  | l, m, 0, _ => by simp
  | [], m, i + 1, h => by obtain ⟨s, t, h1, _⟩ := h 0 (by omega); simp at h1
  | s :: l, [], i + 1, h => by obtain ⟨s, t, _, h1, _⟩ := h 0 (by omega); simp at h1
  | s :: l, t :: m, i + 1, h => by
    obtain ⟨s', t', h1, h2, h3⟩ := h 0 (by omega)
    simp at h1 h2
    subst h1 h2
    rw [cmpL, if_pos h3, List.drop_succ_cons, List.drop_succ_cons]
    exact cmpL_at l m i fun j hj => by simpa using h (j + 1) (by omega)
set_option maxHeartbeats 2000000 in
set_option maxRecDepth 100000 in
theorem rows_any (b1 c1 b2 c2 : Nat) (l m : List ByteArray) (w : World) (hl : l.length ≤ 1000000000) (hm : m.length ≤ 1000000000) (h1 : ∀ j s, l[j]? = some s → w.cell? ⟨b1, j, none⟩ = some (.string s)) (h2 : ∀ j s, m[j]? = some s → w.cell? ⟨b2, j, none⟩ = some (.string s)) :
    Calls Tryz.prog 8 #[.slice (some ⟨b1, 0, none⟩) l.length c1, .slice (some ⟨b2, 0, none⟩) m.length c2] w fun e w' => e = .returned (.int .i64 (cmpL l m)) ∧ w = w' := by
  have H1 : Hid2 (∀ j s, l[j]? = some s → w.cell? ⟨b1, j, none⟩ = some (.string s)) := h1
  have H2 : Hid2 (∀ j s, m[j]? = some s → w.cell? ⟨b2, j, none⟩ = some (.string s)) := h2
  clear h1 h2
  go_enter Tryz.func8, Tryz.ntmps8
  go_wp2
  go_loopw [11] (fun i wr => ∃ k : Nat, k ≤ l.length ∧ k ≤ m.length ∧ i = .int .i64 k ∧ Hid2 (∀ j, j < k → ∃ s t, l[j]? = some s ∧ m[j]? = some t ∧ cmpB s t = 0) ∧ w = wr) (fun i _ => l.length + 1 - (intOf i).toNat)
  case atStart => exact ⟨0, by omega, by omega, rfl, fun j hj => absurd hj (by omega), rfl⟩
  case round =>
    obtain ⟨k, hkl, hkm, rfl, HP, rfl⟩ := hrel
    have hcut : Hid2 (cmpL l m = cmpL (l.drop k) (m.drop k)) := cmpL_at l m k HP.out
    by_cases hlt : k < l.length
    · have d1 : decide ((k : Int) < (l.length : Int)) = true := decide_eq_true (by omega)
      obtain ⟨s, hs⟩ : ∃ s, l[k]? = some s := ⟨_, List.getElem?_eq_getElem hlt⟩
      have x1 := H1.out k s hs
      by_cases hlt2 : k < m.length
      · have d2 : decide ((m.length : Int) ≤ (k : Int)) = false := decide_eq_false (by omega)
        obtain ⟨t, ht⟩ : ∃ t, m[k]? = some t := ⟨_, List.getElem?_eq_getElem hlt2⟩
        have x2 := H2.out k t ht
        have p1 : (0 ≤ (k : Int)) = True := eq_true (by omega)
        have q1 : ((k : Int) < (l.length : Int)) = True := eq_true (by omega)
        have q2 : ((k : Int) < (m.length : Int)) = True := eq_true (by omega)
        have HS : Hid2 (l[k]? = some s ∧ m[k]? = some t) := ⟨hs, ht⟩
        clear hs ht
        go_wp2_with fail
        refine (cmp_any s t _).mono ?_
        rintro e w1 ⟨rfl, rfl⟩
        by_cases hc : cmpB s t = 0
        · have HC : Hid2 (cmpB s t = 0) := hc
          rw [hc]
          clear hc
          go_wp2
          go_roundw
          case rel =>
            refine ⟨k + 1, by omega, by omega, by go_num, fun j hj => ?_, by first | rfl | trivial⟩
            rcases Nat.lt_succ_iff_lt_or_eq.1 hj with h | rfl
            · exact HP.out j h
            · exact ⟨s, t, HS.out.1, HS.out.2, HC.out⟩
          case measure => simp [intOf]; omega
        · have HN : Hid2 (cmpL l m = cmpB s t) := by
            have h3 := hcut.out
            rw [List.drop_eq_getElem_cons hlt, List.drop_eq_getElem_cons hlt2] at h3
            have e1 : l[k] = s := by have := HS.out.1; rw [List.getElem?_eq_getElem hlt] at this; exact Option.some.inj this
            have e2 : m[k] = t := by have := HS.out.2; rw [List.getElem?_eq_getElem hlt2] at this; exact Option.some.inj this
            rw [e1, e2, cmpL, if_neg hc] at h3
            exact h3
          go_wp2
          go_ret
          exact ⟨by rw [HN.out]; rfl, rfl⟩
      · obtain rfl : k = m.length := by omega
        have d2 : decide ((m.length : Int) ≤ (m.length : Int)) = true := decide_eq_true (by omega)
        have p1 : (0 ≤ (m.length : Int)) = True := eq_true (by omega)
        have q1 : ((m.length : Int) < (l.length : Int)) = True := eq_true (by omega)
        have HN : Hid2 (cmpL l m = 1) := by
          have h3 := hcut.out
          rw [List.drop_length, List.drop_eq_getElem_cons hlt, cmpL] at h3
          exact h3
        clear hs
        go_wp2
        go_ret
        exact ⟨by rw [HN.out]; rfl, rfl⟩
    · obtain rfl : k = l.length := by omega
      have d1 : decide ((l.length : Int) < (l.length : Int)) = false := decide_eq_false (by omega)
      by_cases hlt2 : l.length < m.length
      · have d2 : decide ((l.length : Int) < (m.length : Int)) = true := decide_eq_true (by omega)
        have HN : Hid2 (cmpL l m = -1) := by
          have h3 := hcut.out
          rw [List.drop_length, List.drop_eq_getElem_cons hlt2, cmpL] at h3
          exact h3
        go_wp2
        go_ret
        exact ⟨by rw [HN.out]; rfl, rfl⟩
      · have hq : m.length = l.length := by omega
        have d2 : decide ((l.length : Int) < (m.length : Int)) = false := decide_eq_false (by omega)
        have HN : Hid2 (cmpL l m = 0) := by
          have h3 := hcut.out
          rw [List.drop_length, List.drop_of_length_le (by omega), cmpL] at h3
          exact h3
        clear hq
        go_wp2
        go_ret
        exact ⟨by rw [HN.out]; rfl, rfl⟩
end Go.Proofs.YtdhpolneplbhjaaGreatDoorG
