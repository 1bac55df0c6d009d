/- Which texts may be a file's name: the disk's function, and the document's: one function of the text. Conditions: none. -/
import Derived.Test.YtcongfiojbajeaaRows
import Derived.Test.YtcongfiojbajeaaWWords
import Derived.WalkKit
import Derived.ProofKit
import Derived.Below
namespace Go.Proofs.YtcongfiojbajeaaN
open Go Go.RowKit Go.Proofs.YtcongfiojbajeaaW.PrintWords
set_option linter.unusedVariables false
set_option linter.unusedSimpArgs false
def Hid2 (p : Prop) : Prop := p
theorem Hid2.out {p : Prop} (h : Hid2 p) : p := h
/-- The bytes ahead of place j are such as a name may have. -/
def FineTo (s : ByteArray) (j : Nat) : Prop := ∀ k, k < j → 33 ≤ bt s (k : Int) ∧ bt s (k : Int) ≤ 126
theorem FineTo.snoc {s : ByteArray} {j : Nat} (h : FineTo s j) (h1 : 33 ≤ bt s (j : Int)) (h2 : bt s (j : Int) ≤ 126) : FineTo s (j + 1) := by
  intro k hk
  rcases Nat.lt_succ_iff_lt_or_eq.1 hk with h3 | rfl
  · exact h k h3
  · exact ⟨h1, h2⟩
open Classical in
noncomputable def nm (s : ByteArray) : Bool := decide (FineTo s s.size ∧ 1 ≤ s.size ∧ s.size ≤ 240)
open Classical in
theorem nm_bad {s : ByteArray} {j : Nat} (hj : j < s.size) (h : ¬ (33 ≤ bt s (j : Int) ∧ bt s (j : Int) ≤ 126)) : nm s = false := by
  unfold nm
  exact decide_eq_false fun hh => h (hh.1 j hj)
open Classical in
theorem nm_good {s : ByteArray} (h : FineTo s s.size) : nm s = (decide (1 ≤ s.size) && decide (s.size ≤ 240)) := by
  unfold nm
  simp [h]
theorem okc (x : Int) (w : World) : Calls Try.prog 47 #[.int .u8 x] w fun e w' => e = .returned (.bool (decide (32 < x) && decide (x < 127))) ∧ w = w' := by
  go_enter Try.func47, Try.ntmps47
  by_cases h : 32 < x
  · have h1 : decide (32 < x) = true := decide_eq_true h
    go_wp2
    go_ret
    exact ⟨by simp [h1], rfl⟩
  · have h1 : decide (32 < x) = false := decide_eq_false h
    go_wp2
    go_ret
    exact ⟨by simp [h1], rfl⟩
set_option maxRecDepth 100000 in
theorem name_any (s : ByteArray) (hs : s.size ≤ 9223372036854775807) (w : World) : Calls Try.prog 27 #[.string s] w fun e w' => e = .returned (.bool (nm s)) ∧ w = w' := by
  go_enter Try.func27, Try.ntmps27
  go_wp2
  go_loopw [7] (fun i wr => ∃ j : Nat, j ≤ s.size ∧ i = .int .i64 j ∧ Hid2 (FineTo s j) ∧ w = wr) (fun i _ => s.size + 1 - (intOf i).toNat)
  case atStart => exact ⟨0, by omega, rfl, fun k hk => absurd hk (by omega), rfl⟩
  case round =>
    obtain ⟨j, hj, rfl, hF, rfl⟩ := hrel
    by_cases hlt : j < s.size
    · have d1 : decide ((j : Int) < (s.size : Int)) = true := decide_eq_true (by omega)
      have p1 : (0 ≤ (j : Int)) = True := eq_true (by omega)
      have q1 : ((j : Int) < (s.size : Int)) = True := eq_true (by omega)
      have hx : ((s[j]'hlt).toNat : Int) = bt s (j : Int) := bt_at s (j : Int) hlt
      go_wp2_with fail
      refine (okc _ _).mono ?_
      rintro e w1 ⟨rfl, rfl⟩
      try rw [hx]
      by_cases h1 : 32 < bt s (j : Int) ∧ bt s (j : Int) < 127
      · have e1 : (decide (32 < bt s (j : Int)) && decide (bt s (j : Int) < 127)) = true := by simp [h1]
        rw [e1]
        go_wp2
        go_roundw
        case rel => exact ⟨j + 1, by omega, by go_num, hF.out.snoc (by omega) (by omega), by first | rfl | trivial⟩
        case measure => simp [intOf]; omega
      · have e1 : (decide (32 < bt s (j : Int)) && decide (bt s (j : Int) < 127)) = false := by
          rw [Bool.and_eq_false_iff]
          by_cases h2 : 32 < bt s (j : Int)
          · exact .inr (decide_eq_false fun h3 => h1 ⟨h2, h3⟩)
          · exact .inl (decide_eq_false h2)
        rw [e1]
        go_wp2
        go_ret
        exact ⟨by rw [nm_bad hlt (by omega)]; simp, rfl⟩
    · obtain rfl : j = s.size := by omega
      have d1 : decide ((s.size : Int) < (s.size : Int)) = false := decide_eq_false (by omega)
      have HG : Hid2 (nm s = (decide (1 ≤ s.size) && decide (s.size ≤ 240))) := nm_good hF.out
      by_cases h1 : 1 ≤ s.size
      · have e1 : decide (1 ≤ (s.size : Int)) = true := decide_eq_true (by omega)
        go_wp2
        go_ret
        exact ⟨by rw [HG.out]; simp [h1]; omega, rfl⟩
      · have e1 : decide (1 ≤ (s.size : Int)) = false := decide_eq_false (by omega)
        go_wp2
        go_ret
        exact ⟨by rw [HG.out]; simp [h1], rfl⟩
set_option maxRecDepth 100000 in
theorem ref_any (s : ByteArray) (hs : s.size ≤ 9223372036854775807) (w : World) : Calls Try.prog 53 #[.string s] w fun e w' => e = .returned (.bool (nm s)) ∧ w = w' := by
  go_enter Try.func53, Try.ntmps53
  go_wp2
  go_loopw [3] (fun i wr => ∃ j : Nat, j ≤ s.size ∧ i = .int .i64 j ∧ Hid2 (FineTo s j) ∧ w = wr) (fun i _ => s.size + 1 - (intOf i).toNat)
  case atStart => exact ⟨0, by omega, rfl, fun k hk => absurd hk (by omega), rfl⟩
  case round =>
    obtain ⟨j, hj, rfl, hF, rfl⟩ := hrel
    by_cases hlt : j < s.size
    · have d1 : decide ((j : Int) < (s.size : Int)) = true := decide_eq_true (by omega)
      have p1 : (0 ≤ (j : Int)) = True := eq_true (by omega)
      have q1 : ((j : Int) < (s.size : Int)) = True := eq_true (by omega)
      have hx : ((s[j]'hlt).toNat : Int) = bt s (j : Int) := bt_at s (j : Int) hlt
      by_cases h1 : bt s (j : Int) < 33
      · have e1 : decide (bt s (j : Int) < 33) = true := decide_eq_true h1
        go_wp2
        go_ret
        exact ⟨by rw [nm_bad hlt (by omega)]; simp, rfl⟩
      · have e1 : decide (bt s (j : Int) < 33) = false := decide_eq_false h1
        by_cases h2 : 126 < bt s (j : Int)
        · have e2 : decide (126 < bt s (j : Int)) = true := decide_eq_true h2
          go_wp2
          go_ret
          exact ⟨by rw [nm_bad hlt (by omega)]; simp, rfl⟩
        · have e2 : decide (126 < bt s (j : Int)) = false := decide_eq_false h2
          go_wp2
          go_roundw
          case rel => exact ⟨j + 1, by omega, by go_num, hF.out.snoc (by omega) (by omega), by first | rfl | trivial⟩
          case measure => simp [intOf]; omega
    · obtain rfl : j = s.size := by omega
      have d1 : decide ((s.size : Int) < (s.size : Int)) = false := decide_eq_false (by omega)
      have HG : Hid2 (nm s = (decide (1 ≤ s.size) && decide (s.size ≤ 240))) := nm_good hF.out
      by_cases h1 : s.toList = ([] : List UInt8)
      · have e1 : (s.toList != ([] : List UInt8)) = false := bne_eq_false_iff_eq.mpr h1
        have h0 : ¬ 1 ≤ s.size := by
          have h2 : s.data.toList = [] := by rw [← ByteArray.toList_eq]; exact h1
          have : s.data.toList.length = s.size := by simp
          rw [h2] at this; simp at this; omega
        go_wp2
        go_ret
        exact ⟨by rw [HG.out]; simp [h0], rfl⟩
      · have e1 : (s.toList != ([] : List UInt8)) = true := bne_iff_ne.mpr h1
        have h0 : 1 ≤ s.size := by
          rcases Nat.eq_zero_or_pos s.size with h2 | h2
          · refine absurd ?_ h1
            have h3 : s.data.toList.length = 0 := by simpa using h2
            have h4 := List.length_eq_zero_iff.1 h3
            rw [← ByteArray.toList_eq] at h4
            exact h4
          · exact h2
        by_cases h3 : s.size ≤ 240
        · have e3 : decide ((s.size : Int) < 241) = true := decide_eq_true (by omega)
          go_wp2
          go_ret
          exact ⟨by rw [HG.out]; simp [h0, h3, e3, h1], rfl⟩
        · have e3 : decide ((s.size : Int) < 241) = false := decide_eq_false (by omega)
          go_wp2
          go_ret
          exact ⟨by rw [HG.out]; simp [h0, h3, e3, h1], rfl⟩
end Go.Proofs.YtcongfiojbajeaaN
