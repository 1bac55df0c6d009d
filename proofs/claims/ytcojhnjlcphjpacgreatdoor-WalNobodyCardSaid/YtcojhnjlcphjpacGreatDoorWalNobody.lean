/- WalNobody, the walk: a nil log, no disk, a dead one, segments of no bytes: whatever texts and number come in. Conditions: the texts lie in the world; a world of at least one block. -/
import Derived.Test.YtcojhnjlcphjpacGreatDoorWalRun
import Derived.Test.YtcojhnjlcphjpacGreatDoorXcutx1
namespace Go.Proofs.YtcojhnjlcphjpacGreatDoorM
open Go Go.RowKit Go.Proofs.YtcojhnjlcphjpacGreatDoorD Go.Proofs.YtcojhnjlcphjpacGreatDoorW.PrintWords Go.Proofs.YtcojhnjlcphjpacGreatDoorW.PrintMore
set_option linter.unusedVariables false
set_option linter.unusedSimpArgs false
def Hid2 (p : Prop) : Prop := p
theorem Hid2.out {p : Prop} (h : Hid2 p) : p := h
theorem few_some (s : ByteArray) : ∃ r, Go.Proofs.YtcojhnjlcphjpacGreatDoor.Xcut.arbourlaw07_few.f s = some r := by
  unfold Go.Proofs.YtcojhnjlcphjpacGreatDoor.Xcut.arbourlaw07_few.f
  by_cases h : (s.size : Int) > 200
  · rw [if_pos h, if_pos (by omega), if_pos (by omega)]; exact ⟨_, rfl⟩
  · rw [if_neg h]; exact ⟨_, rfl⟩
theorem cut_some (l : List ByteArray) : ∀ (d i : Nat) (x : List ByteArray), d + i = 6 → x.length = i → ∃ r, Go.Proofs.YtcojhnjlcphjpacGreatDoor.Xcut.arbourlaw07_cut.l0 (d + 1) l x i = some r := by
  intro d
  induction d with
  | zero =>
    intro i x h1 h2
    simp only [Go.Proofs.YtcojhnjlcphjpacGreatDoor.Xcut.arbourlaw07_cut.l0]
    by_cases h : (i : Int) < l.length
    · rw [if_pos h, if_neg (by omega)]; exact ⟨_, rfl⟩
    · rw [if_neg h]; exact ⟨_, rfl⟩
  | succ d ih =>
    intro i x h1 h2
    rw [Go.Proofs.YtcojhnjlcphjpacGreatDoor.Xcut.arbourlaw07_cut.l0]
    by_cases h : (i : Int) < l.length
    · obtain ⟨t, ht⟩ := few_some (rdOf ByteArray.empty l i)
      rw [if_pos h, if_pos (by omega), if_pos (by omega), ht, Option.bind_some, if_pos (by omega)]
      rw [show wrap64 ((i : Int) + 1) = ((i + 1 : Nat) : Int) by unfold wrap64; omega]
      exact ih (i + 1) _ (by omega) (by simp [h2])
    · rw [if_neg h]; exact ⟨_, rfl⟩
theorem cut_any (A : Option Addr) (c : Nat) (l : List ByteArray) (w : World) (hr : Kd.C Kd.string w A l.length l) (hc : l.length ≤ c) :
    Calls Tryz.prog 9 #[.slice A l.length c] w fun e w' => ∃ v : Value, e = .returned v ∧ Below w.heap.size w w' := by
  obtain ⟨r, h⟩ := cut_some l 6 0 [] rfl rfl
  exact (Go.Proofs.YtcojhnjlcphjpacGreatDoor.Xcut.arbourlaw07_cut.calls 7 A c l r w hr hc h).mono fun e w' ⟨v, h1, _, h3⟩ => ⟨v, h1, h3⟩
set_option maxRecDepth 100000 in
theorem open_nil (n : Int) (w : World) : Calls Tryz.prog 6 #[.pointer none, .int .i64 n] w fun e w' => e = .returned (.tuple #[.pointer none, .int .i64 0, .int .i64 1]) ∧ w = w' := by
  go_enter Tryz.func6, Tryz.ntmps6
  go_wp2
  go_ret3
  exact ⟨rfl, rfl⟩
set_option maxRecDepth 100000 in
theorem add_nil (v : Value) (w : World) : Calls Tryz.prog 8 #[.pointer none, v] w fun e w' => e = .returned (.int .i64 1) ∧ w = w' := by
  go_enter Tryz.func8, Tryz.ntmps8
  go_wp2
  go_ret
  exact ⟨rfl, rfl⟩
set_option maxRecDepth 100000 in
theorem reset_nil (v : Value) (w : World) : Calls Tryz.prog 10 #[.pointer none, v] w fun e w' => e = .returned (.int .i64 1) ∧ w = w' := by
  go_enter Tryz.func10, Tryz.ntmps10
  go_wp2
  go_ret
  exact ⟨rfl, rfl⟩
set_option maxRecDepth 100000 in
theorem all_nil  (w : World) : Calls Tryz.prog 11 #[.pointer none] w fun e w' => e = .returned (.slice none 0 0) ∧ w = w' := by
  go_enter Tryz.func11, Tryz.ntmps11
  go_wp2
  go_ret
  exact ⟨rfl, rfl⟩
set_option maxRecDepth 100000 in
theorem len_nil  (w : World) : Calls Tryz.prog 12 #[.pointer none] w fun e w' => e = .returned (.int .i64 0) ∧ w = w' := by
  go_enter Tryz.func12, Tryz.ntmps12
  go_wp2_with fail
  refine (all_nil _).mono ?_
  rintro e w1 ⟨rfl, rfl⟩
  go_wp2
  go_ret
  exact ⟨rfl, rfl⟩
set_option maxRecDepth 100000 in
theorem segs_nil  (w : World) : Calls Tryz.prog 13 #[.pointer none] w fun e w' => e = .returned (.slice none 0 0) ∧ w = w' := by
  go_enter Tryz.func13, Tryz.ntmps13
  go_wp2
  go_ret
  exact ⟨rfl, rfl⟩
set_option maxRecDepth 100000 in
set_option maxHeartbeats 4000000 in
theorem walk_many (A : Option Addr) (c : Nat) (l : List ByteArray) (n : Int) (W : World) (hW : 1 ≤ W.heap.size) (hr : Kd.C Kd.string W A l.length l) (hc : l.length ≤ c) (hlo : 1 ≤ n) (hhi : n ≤ 9223372036854775807) :
    Calls Tryz.prog 3 #[.slice A l.length c, .int .i64 n] W fun e w' => e = .returned (.bool true) ∧ Below W.heap.size W w' := by
  have HR : Hid2 (Kd.C Kd.string W A l.length l) := hr
  have HW : Hid2 (1 ≤ W.heap.size) := hW
  have HS : Hid2 (∀ ρ, VRel ρ mMany (.int .i64 n)) := fun ρ => sym_rel hlo hhi
  clear hr
  go_enter Tryz.func3, Tryz.ntmps3
  go_wp2_with fail
  refine (next okDead (rel0 HW.out) VsRel.nil).mono ?_
  rintro e w1 ⟨ρ1, d1, v1, s1, rd1, wr1, rfl, hle1, hr1, hv1, hok1⟩
  have H1 : Hid2 _ := And.intro hv1 (And.intro hr1 hok1)
  clear hle1 hv1 hr1 hok1
  go_wp2_with fail
  refine (next H1.out.2.2 H1.out.2.1 (VsRel.cons H1.out.1 (VsRel.cons (by simp only [VRel]) (VsRel.cons (by simp only [VRel]) VsRel.nil)))).mono ?_
  rintro e w2 ⟨ρ2, d2, v2, s2, rd2, wr2, rfl, hle2, hr2, hv2, hok2⟩
  have H2 : Hid2 _ := And.intro (H1.out.1.mono hle2 _ _) (And.intro hr2 hok2)
  clear hle2 hv2 hr2 hok2 H1
  go_wp2_with fail
  refine (open_nil 10 _).mono ?_
  rintro e w3 ⟨rfl, rfl⟩
  go_wp2_with fail
  refine (next H2.out.2.2 H2.out.2.1 (VsRel.cons H2.out.1 (VsRel.cons (by simp only [VRel]) VsRel.nil))).mono ?_
  rintro e w3 ⟨ρ3, d3, v3, s3, rd3, wr3, rfl, hle3, hr3, hv3, hok3⟩
  obtain ⟨p3, q3, rfl⟩ := third_rel (Ok_ret hok3) hv3
  have HB3 : Hid2 (Below W.heap.size W w3) := hr3.below
  clear hle3 hv3 hr3 hok3 H2
  go_wp2_with fail
  refine (next okMany (rel0 (Nat.le_trans HW.out HB3.out.size)) VsRel.nil).mono ?_
  rintro e w4 ⟨ρ4, d4, v4, s4, rd4, wr4, rfl, hle4, hr4, hv4, hok4⟩
  have H4 : Hid2 _ := And.intro hv4 (And.intro hr4 hok4)
  clear hle4 hv4 hr4 hok4
  go_wp2_with fail
  refine (next H4.out.2.2 H4.out.2.1 (VsRel.cons H4.out.1 (VsRel.cons (HS.out _) VsRel.nil))).mono ?_
  rintro e w5 ⟨ρ5, d5, v5, s5, rd5, wr5, rfl, hle5, hr5, hv5, hok5⟩
  obtain ⟨p5, q5, rfl⟩ := third_rel (Ok_ret hok5) hv5
  have HB5 : Hid2 (Below W.heap.size W w5) := HB3.out.trans (hr5.below.mono HB3.out.size)
  clear hle5 hv5 hr5 hok5 H4 HB3
  have hd : decide (1 ≤ n) = true := decide_eq_true hlo
  go_wp2_with fail
  refine (awake_any _ (Nat.le_trans HW.out HB5.out.size)).mono ?_
  rintro e w6 ⟨rfl, hb6⟩
  have HB6 : Hid2 (Below W.heap.size W w6) := HB5.out.trans (hb6.mono HB5.out.size)
  clear hb6 HB5
  go_wp2_with fail
  refine (cut_any A c l _ (Kd.C_below HR.out HB6.out) hc).mono ?_
  rintro e w7 ⟨v7, rfl, hb7⟩
  have HB7 : Hid2 (Below W.heap.size W w7) := HB6.out.trans (hb7.mono HB6.out.size)
  clear hb7 HB6
  go_wp2_with fail
  refine (add_nil v7 _).mono ?_
  rintro e w8 ⟨rfl, rfl⟩
  go_wp2_with fail
  refine (cut_any A c l _ (Kd.C_below HR.out HB7.out) hc).mono ?_
  rintro e w8 ⟨v8, rfl, hb8⟩
  have HB8 : Hid2 (Below W.heap.size W w8) := HB7.out.trans (hb8.mono HB7.out.size)
  clear hb8 HB7
  go_wp2_with fail
  refine (reset_nil v8 _).mono ?_
  rintro e w9 ⟨rfl, rfl⟩
  go_wp2_with fail
  refine (all_nil _).mono ?_
  rintro e w9 ⟨rfl, rfl⟩
  go_wp2_with fail
  refine (len_nil _).mono ?_
  rintro e w9 ⟨rfl, rfl⟩
  go_wp2_with fail
  refine (segs_nil _).mono ?_
  rintro e w9 ⟨rfl, rfl⟩
  go_wp2
  go_ret
  exact ⟨rfl, HB8.out⟩
set_option maxRecDepth 100000 in
set_option maxHeartbeats 4000000 in
theorem walk_none (A : Option Addr) (c : Nat) (l : List ByteArray) (n : Int) (W : World) (hW : 1 ≤ W.heap.size) (hr : Kd.C Kd.string W A l.length l) (hc : l.length ≤ c) (hlo : -9223372036854775808 ≤ n) (hhi : n ≤ 0) :
    Calls Tryz.prog 3 #[.slice A l.length c, .int .i64 n] W fun e w' => e = .returned (.bool true) ∧ Below W.heap.size W w' := by
  have HR : Hid2 (Kd.C Kd.string W A l.length l) := hr
  have HW : Hid2 (1 ≤ W.heap.size) := hW
  have HS : Hid2 (∀ ρ, VRel ρ mNone (.int .i64 n)) := fun ρ => sym_rel hlo hhi
  clear hr
  go_enter Tryz.func3, Tryz.ntmps3
  go_wp2_with fail
  refine (next okDead (rel0 HW.out) VsRel.nil).mono ?_
  rintro e w1 ⟨ρ1, d1, v1, s1, rd1, wr1, rfl, hle1, hr1, hv1, hok1⟩
  have H1 : Hid2 _ := And.intro hv1 (And.intro hr1 hok1)
  clear hle1 hv1 hr1 hok1
  go_wp2_with fail
  refine (next H1.out.2.2 H1.out.2.1 (VsRel.cons H1.out.1 (VsRel.cons (by simp only [VRel]) (VsRel.cons (by simp only [VRel]) VsRel.nil)))).mono ?_
  rintro e w2 ⟨ρ2, d2, v2, s2, rd2, wr2, rfl, hle2, hr2, hv2, hok2⟩
  have H2 : Hid2 _ := And.intro (H1.out.1.mono hle2 _ _) (And.intro hr2 hok2)
  clear hle2 hv2 hr2 hok2 H1
  go_wp2_with fail
  refine (open_nil 10 _).mono ?_
  rintro e w3 ⟨rfl, rfl⟩
  go_wp2_with fail
  refine (next H2.out.2.2 H2.out.2.1 (VsRel.cons H2.out.1 (VsRel.cons (by simp only [VRel]) VsRel.nil))).mono ?_
  rintro e w3 ⟨ρ3, d3, v3, s3, rd3, wr3, rfl, hle3, hr3, hv3, hok3⟩
  obtain ⟨p3, q3, rfl⟩ := third_rel (Ok_ret hok3) hv3
  have HB3 : Hid2 (Below W.heap.size W w3) := hr3.below
  clear hle3 hv3 hr3 hok3 H2
  go_wp2_with fail
  refine (next okNone (rel0 (Nat.le_trans HW.out HB3.out.size)) VsRel.nil).mono ?_
  rintro e w4 ⟨ρ4, d4, v4, s4, rd4, wr4, rfl, hle4, hr4, hv4, hok4⟩
  have H4 : Hid2 _ := And.intro hv4 (And.intro hr4 hok4)
  clear hle4 hv4 hr4 hok4
  go_wp2_with fail
  refine (next H4.out.2.2 H4.out.2.1 (VsRel.cons H4.out.1 (VsRel.cons (HS.out _) VsRel.nil))).mono ?_
  rintro e w5 ⟨ρ5, d5, v5, s5, rd5, wr5, rfl, hle5, hr5, hv5, hok5⟩
  obtain ⟨p5, q5, rfl⟩ := third_rel (Ok_ret hok5) hv5
  have HB5 : Hid2 (Below W.heap.size W w5) := HB3.out.trans (hr5.below.mono HB3.out.size)
  clear hle5 hv5 hr5 hok5 H4 HB3
  have hd : decide (1 ≤ n) = false := decide_eq_false (by omega)
  go_wp2_with fail
  refine (awake_any _ (Nat.le_trans HW.out HB5.out.size)).mono ?_
  rintro e w6 ⟨rfl, hb6⟩
  have HB6 : Hid2 (Below W.heap.size W w6) := HB5.out.trans (hb6.mono HB5.out.size)
  clear hb6 HB5
  go_wp2_with fail
  refine (cut_any A c l _ (Kd.C_below HR.out HB6.out) hc).mono ?_
  rintro e w7 ⟨v7, rfl, hb7⟩
  have HB7 : Hid2 (Below W.heap.size W w7) := HB6.out.trans (hb7.mono HB6.out.size)
  clear hb7 HB6
  go_wp2_with fail
  refine (add_nil v7 _).mono ?_
  rintro e w8 ⟨rfl, rfl⟩
  go_wp2_with fail
  refine (cut_any A c l _ (Kd.C_below HR.out HB7.out) hc).mono ?_
  rintro e w8 ⟨v8, rfl, hb8⟩
  have HB8 : Hid2 (Below W.heap.size W w8) := HB7.out.trans (hb8.mono HB7.out.size)
  clear hb8 HB7
  go_wp2_with fail
  refine (reset_nil v8 _).mono ?_
  rintro e w9 ⟨rfl, rfl⟩
  go_wp2_with fail
  refine (all_nil _).mono ?_
  rintro e w9 ⟨rfl, rfl⟩
  go_wp2_with fail
  refine (len_nil _).mono ?_
  rintro e w9 ⟨rfl, rfl⟩
  go_wp2_with fail
  refine (segs_nil _).mono ?_
  rintro e w9 ⟨rfl, rfl⟩
  go_wp2
  go_ret
  exact ⟨rfl, HB8.out⟩
theorem walk (A : Option Addr) (c : Nat) (l : List ByteArray) (n : Int) (W : World) (hW : 1 ≤ W.heap.size) (hr : Kd.C Kd.string W A l.length l) (hc : l.length ≤ c) (hn : (Lit.int .i64 n).wf = true) :
    Calls Tryz.prog 3 #[.slice A l.length c, .int .i64 n] W fun e w' => e = .returned (.bool true) ∧ Below W.heap.size W w' := by
  have hb : -9223372036854775808 ≤ n ∧ n ≤ 9223372036854775807 := by simpa [Lit.wf, IntKind.min, IntKind.max, IntKind.signed, IntKind.bits] using hn
  by_cases h : 1 ≤ n
  · exact walk_many A c l n W hW hr hc h hb.2
  · exact walk_none A c l n W hW hr hc hb.1 (by omega)
end Go.Proofs.YtcojhnjlcphjpacGreatDoorM
