/- DiskNobody, the walk: true at any text and any act. Conditions: the text is no longer than the form's own bound. -/
import Derived.Test.YtcojhnjlcphjpaaDiskNil
import Derived.Test.YtcojhnjlcphjpaaDiskName
import Derived.Test.YtcojhnjlcphjpaaDAwake
namespace Go.Proofs.YtcojhnjlcphjpaaN
open Go Go.RowKit Go.Proofs.YtcojhnjlcphjpaaW.PrintWords Go.Proofs.YtcojhnjlcphjpaaW.PrintMore
set_option linter.unusedVariables false
set_option linter.unusedSimpArgs false
theorem Hid2.mk {p : Prop} (h : p) : Hid2 p := h
set_option maxRecDepth 100000 in
set_option maxHeartbeats 2000000 in
theorem walk (s : ByteArray) (hs : s.size ≤ 140737488351232) (k n a b c : Int) (nm_ to_ tx : ByteArray) (W : World) :
    Calls Try.prog 3 #[.string s, .agg #[.int .i64 k, .string nm_, .string to_, .string tx, .int .i64 n, .int .i64 a, .int .i64 b, .int .i64 c]] W fun e w' => e = .returned (.bool true) ∧ Below W.heap.size W w' := by
  go_enter Try.func3, Try.ntmps3
  go_wp2_with fail
  refine (room n _).mono ?_
  rintro e w1 ⟨rfl, rfl⟩
  go_wp2_with fail
  refine (plan _ _ _ _).mono ?_
  rintro e w1 ⟨rfl, rfl⟩
  go_wp2_with fail
  refine (crash n n _).mono ?_
  rintro e w1 ⟨rfl, rfl⟩
  go_wp2_with fail
  refine (read s _).mono ?_
  rintro e w1 ⟨rfl, rfl⟩
  go_wp2_with fail
  generalize hw1 : ((W.alloc _).alloc _) = w1
  have HB0 : Hid2 (Below W.heap.size W w1) := by rw [← hw1]; exact ((Below.refl _ _).alloc (Nat.le_refl _) _).alloc (by simp) _
  have hn : 1 ≤ w1.heap.size := by rw [← hw1]; simp
  clear hw1
  refine (awake_any _ hn).mono ?_
  rintro e u1 ⟨rfl, hb1⟩
  have HB1 : Hid2 (Below W.heap.size W u1) := HB0.out.trans (hb1.mono HB0.out.size)
  clear hb1 hn
  go_wp2_with fail
  refine (name_any s hs _).mono ?_
  rintro e w1 ⟨rfl, rfl⟩
  go_wp2_with fail
  refine (ref_any s hs _).mono ?_
  rintro e w1 ⟨rfl, rfl⟩
  have e0 : (nm s == nm s) = true := by simp
  go_wp2_with fail
  refine (dead _).mono ?_
  rintro e w1 ⟨rfl, rfl⟩
  go_wp2_with fail
  refine (up _).mono ?_
  rintro e w1 ⟨rfl, rfl⟩
  go_wp2_with fail
  refine (append s s _).mono ?_
  rintro e u2 ⟨rfl, hb2⟩
  have HB2 : Hid2 (Below W.heap.size W u2) := HB1.out.trans (hb2.mono HB1.out.size)
  clear hb2
  go_wp2_with fail
  refine (write s s _).mono ?_
  rintro e u3 ⟨rfl, hb3⟩
  have HB3 : Hid2 (Below W.heap.size W u3) := HB2.out.trans (hb3.mono HB2.out.size)
  clear hb3
  go_wp2_with fail
  refine (move s s _).mono ?_
  rintro e w1 ⟨rfl, rfl⟩
  go_wp2_with fail
  refine (remove s _).mono ?_
  rintro e w1 ⟨rfl, rfl⟩
  go_wp2_with fail
  refine (truncate s 0 _).mono ?_
  rintro e w1 ⟨rfl, rfl⟩
  go_wp2_with fail
  refine (sync _).mono ?_
  rintro e w1 ⟨rfl, rfl⟩
  go_wp2_with fail
  refine (names _).mono ?_
  rintro e w1 ⟨rfl, rfl⟩
  go_wp2_with fail
  refine (used _).mono ?_
  rintro e w1 ⟨rfl, rfl⟩
  go_wp2_with fail
  refine (changes _).mono ?_
  rintro e w1 ⟨rfl, rfl⟩
  go_wp2_with fail
  refine (loose _).mono ?_
  rintro e w1 ⟨rfl, rfl⟩
  go_wp2_with fail
  refine (clone _).mono ?_
  rintro e w1 ⟨rfl, rfl⟩
  go_wp2
  go_ret
  exact ⟨rfl, HB3.out⟩
end Go.Proofs.YtcojhnjlcphjpaaN
