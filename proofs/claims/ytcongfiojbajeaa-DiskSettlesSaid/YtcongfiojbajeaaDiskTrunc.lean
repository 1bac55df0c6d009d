/- The disk: Truncate, where it is refused. Conditions: the file named lies in the world. -/
import Derived.Test.YtcongfiojbajeaaDiskRemove
namespace Go.Proofs.YtcongfiojbajeaaK
open Go Go.RowKit Go.Maps Go.Proofs.YtcongfiojbajeaaM Go.Proofs.YtcongfiojbajeaaW.PrintWords Go.Proofs.YtcongfiojbajeaaN
set_option linter.unusedVariables false
set_option linter.unusedSimpArgs false
section
variable {w : World} {db mb : Nat} {names : List (ByteArray × Nat)} {room next : Int} {power : Bool}
set_option maxRecDepth 100000 in
theorem trunc_no (h : IsObj w db mb names room power next) (s : ByteArray) (hs : s.size ≤ 9223372036854775807) (m : Int) (n : Int) (hn : n = 7 ∨ n = 60 ∨ n = 2) (ht : thereA names power s = .tuple #[.pointer none, .int .i64 n]) :
    Calls Try.prog 11 #[.pointer (some ⟨db, 0, none⟩), .string s, .int .i64 m] w fun e w' => e = .returned (.int .i64 n) ∧ w' = w := by
  have HK := Lib.hid (there_any h s hs)
  rw [ht] at HK
  clear h ht
  rcases hn with rfl | rfl | rfl
  all_goals
    go_enter Try.func11, Try.ntmps11
    go_wp2_with fail
    refine HK.out.mono ?_
    rintro e w1 ⟨rfl, hw⟩
    subst hw
    go_wp2
    go_ret
    exact ⟨rfl, rfl⟩
set_option maxRecDepth 100000 in
theorem trunc_out (h : IsObj w db mb names room power next) (s : ByteArray) (hs : s.size ≤ 9223372036854775807) (m : Int) (b : Nat) (f : PF) (ht : thereA names power s = .tuple #[.pointer (some ⟨b, 0, none⟩), .int .i64 0])
    (hf : IsFile w b f) (hv : f.vol ≤ 1000000000) (hl : f.loose.length ≤ 1000000000) (hm : m < 0 ∨ (f.now.size : Int) < m) :
    Calls Try.prog 11 #[.pointer (some ⟨db, 0, none⟩), .string s, .int .i64 m] w fun e w' => e = .returned (.int .i64 1) ∧ Below w.heap.size w w' := by
  have HK := Lib.hid (there_any h s hs)
  obtain ⟨A, c, h1, h2, _⟩ := hf
  have HN := Lib.hid (now_any b f A c w h1 h2 hv hl)
  rw [ht] at HK
  clear h ht h1 h2
  by_cases h3 : m < 0
  · have d1 : decide (m < 0) = true := decide_eq_true h3
    go_enter Try.func11, Try.ntmps11
    go_wp2_with fail
    refine HK.out.mono ?_
    rintro e w1 ⟨rfl, hw⟩
    subst hw
    go_wp2_with fail
    refine HN.out.mono ?_
    rintro e w2 ⟨rfl, hb⟩
    have HB := Lib.hid hb
    clear hb
    go_wp2
    go_ret
    exact ⟨rfl, HB.out⟩
  · have d1 : decide (m < 0) = false := decide_eq_false h3
    have d2 : decide ((f.now.size : Int) < m) = true := decide_eq_true (by omega)
    go_enter Try.func11, Try.ntmps11
    go_wp2_with fail
    refine HK.out.mono ?_
    rintro e w1 ⟨rfl, hw⟩
    subst hw
    go_wp2_with fail
    refine HN.out.mono ?_
    rintro e w2 ⟨rfl, hb⟩
    have HB := Lib.hid hb
    clear hb
    go_wp2
    go_ret
    exact ⟨rfl, HB.out⟩
end
end Go.Proofs.YtcongfiojbajeaaK
