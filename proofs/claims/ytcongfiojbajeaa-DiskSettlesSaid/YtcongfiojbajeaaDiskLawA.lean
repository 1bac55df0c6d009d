/- The law of the disk: its own small functions: few. -/
import Derived.Test.YtcongfiojbajeaaDiskRefF
namespace Go.Proofs.YtcongfiojbajeaaK
open Go Go.RowKit Go.Maps Go.Proofs.YtcongfiojbajeaaM Go.Proofs.YtcongfiojbajeaaW.PrintWords Go.Proofs.YtcongfiojbajeaaN
set_option linter.unusedVariables false
set_option linter.unusedSimpArgs false
/-- A piece of at most 60 bytes. -/
def few (s : ByteArray) : ByteArray := if 60 < s.size then s.extract 0 60 else s
theorem few_size (s : ByteArray) : (few s).size ≤ 60 := by
  unfold few
  split
  · simp [ByteArray.size_extract]; omega
  · omega
set_option maxRecDepth 100000 in
theorem few_any (s : ByteArray) (hs : s.size ≤ 9223372036854775807) (w : World) :
    Calls Try.prog 39 #[.string s] w fun e' w' => e' = .returned (.string (few s)) ∧ w = w' := by
  go_enter Try.func39, Try.ntmps39
  by_cases h : 60 < s.size
  · have h2 : (60 : Int) < (s.size : Int) := by omega
    have hf := Lib.hid (show few s = s.extract 0 60 by unfold few; rw [if_pos h])
    go_wp2
    go_ret
    exact ⟨by rw [hf.out]; rfl, rfl⟩
  · have h2 : ¬ (60 : Int) < (s.size : Int) := by omega
    have hf := Lib.hid (show few s = s by unfold few; rw [if_neg h])
    go_wp2
    go_ret
    exact ⟨by rw [hf.out]; rfl, rfl⟩
end Go.Proofs.YtcongfiojbajeaaK
