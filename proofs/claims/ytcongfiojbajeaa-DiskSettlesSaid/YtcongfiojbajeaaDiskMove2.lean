/- The disk: Move, where it is refused. Conditions: none. -/
import Derived.Test.YtcongfiojbajeaaDiskMove
namespace Go.Proofs.YtcongfiojbajeaaK
open Go Go.RowKit Go.Maps Go.Proofs.YtcongfiojbajeaaM Go.Proofs.YtcongfiojbajeaaW.PrintWords Go.Proofs.YtcongfiojbajeaaN
set_option linter.unusedVariables false
set_option linter.unusedSimpArgs false
section
variable {w : World} {db mb : Nat} {names : List (ByteArray × Nat)} {room next : Int} {power : Bool}
set_option maxRecDepth 100000 in
theorem move_no (h : IsObj w db mb names room power next) (s t : ByteArray) (hs : s.size ≤ 9223372036854775807) (n : Int) (hn : n = 7 ∨ n = 60 ∨ n = 2) (ht : thereA names power s = .tuple #[.pointer none, .int .i64 n]) :
    Calls Try.prog 10 #[.pointer (some ⟨db, 0, none⟩), .string s, .string t] w fun e w' => e = .returned (.int .i64 n) ∧ w' = w := by
  have HK := Lib.hid (there_any h s hs)
  rw [ht] at HK
  clear h ht
  rcases hn with rfl | rfl | rfl
  all_goals
    go_enter Try.func10, Try.ntmps10
    go_wp2_with fail
    refine HK.out.mono ?_
    rintro e w1 ⟨rfl, hw⟩
    subst hw
    go_wp2
    go_ret
    exact ⟨rfl, rfl⟩
set_option maxRecDepth 100000 in
theorem move_name (h : IsObj w db mb names room power next) (s t : ByteArray) (hs : s.size ≤ 9223372036854775807) (hts : t.size ≤ 9223372036854775807) (b : Nat) (ht : thereA names power s = .tuple #[.pointer (some ⟨b, 0, none⟩), .int .i64 0]) (hnt : nm t = false) :
    Calls Try.prog 10 #[.pointer (some ⟨db, 0, none⟩), .string s, .string t] w fun e w' => e = .returned (.int .i64 60) ∧ w' = w := by
  have HK := Lib.hid (there_any h s hs)
  have HM := Lib.hid (fun w => name_any t hts w)
  rw [hnt] at HM
  rw [ht] at HK
  clear h ht
  go_enter Try.func10, Try.ntmps10
  go_wp2_with fail
  refine HK.out.mono ?_
  rintro e w1 ⟨rfl, hw⟩
  subst hw
  go_wp2_with fail
  refine (HM.out _).mono ?_
  rintro e w2 ⟨rfl, hw⟩
  subst hw
  go_wp2
  go_ret
  exact ⟨rfl, rfl⟩
set_option maxRecDepth 100000 in
theorem move_same (h : IsObj w db mb names room power next) (s : ByteArray) (hs : s.size ≤ 9223372036854775807) (b : Nat) (ht : thereA names power s = .tuple #[.pointer (some ⟨b, 0, none⟩), .int .i64 0]) (hnt : nm s = true) :
    Calls Try.prog 10 #[.pointer (some ⟨db, 0, none⟩), .string s, .string s] w fun e w' => e = .returned (.int .i64 1) ∧ w' = w := by
  have HK := Lib.hid (there_any h s hs)
  have HM := Lib.hid (fun w => name_any s hs w)
  have hbeq : (s.toList == s.toList) = true := beq_iff_eq.2 rfl
  rw [hnt] at HM
  rw [ht] at HK
  clear h ht
  go_enter Try.func10, Try.ntmps10
  go_wp2_with fail
  refine HK.out.mono ?_
  rintro e w1 ⟨rfl, hw⟩
  subst hw
  go_wp2_with fail
  refine (HM.out _).mono ?_
  rintro e w2 ⟨rfl, hw⟩
  subst hw
  go_wp2
  go_ret
  exact ⟨rfl, rfl⟩
end
end Go.Proofs.YtcongfiojbajeaaK
