/- The law of the disk: side.files, Kind 0 (Append). -/
import Derived.Test.YtcongfiojbajeaaDiskLawG
import Derived.Deep.DrawnRows
namespace Go.Proofs.YtcongfiojbajeaaK
open Go Go.RowKit Go.Maps Go.Proofs.YtcongfiojbajeaaM Go.Proofs.YtcongfiojbajeaaW.PrintWords Go.Proofs.YtcongfiojbajeaaN
variable {lo : Nat}
attribute [local go_sem ↓] Go.wp_at_zero Go.wp_at_succ
set_option linter.unusedVariables false
set_option linter.unusedSimpArgs false
set_option maxHeartbeats 4000000 in
set_option maxRecDepth 100000 in
theorem files_append (σ : PD) (vf : Value) (db : Nat) (w : World) (hD : IsD lo w db σ) (hR : IsR w vf σ) (hF : σ.Fit) (hp : σ.power = true) (nme tn s : ByteArray) (n a1 a2 a3 : Int) (hnme : nme.size ≤ 9223372036854775807) (hss : s.size ≤ 9223372036854775807) :
    Calls Try.prog 22 #[.agg (sv db vf σ), .agg #[.int .i64 0, .string nme, .string tn, .string s, .int .i64 n, .int .i64 a1, .int .i64 a2, .int .i64 a3]] w fun e' w' => ∃ vf', e' = .returned (.tuple #[.agg (sv db vf' (σ.put nme (few s, false)).1), .int .i64 (σ.put nme (few s, false)).2, .int .i64 (σ.put nme (few s, false)).2]) ∧ IsD lo w' db (σ.put nme (few s, false)).1 ∧ IsR w' vf' (σ.put nme (few s, false)).1 ∧ Turned lo w w' := by
  obtain ⟨A, c, rfl⟩ := Kd.R_slice hR
  obtain ⟨m, hm⟩ : ∃ m, m = σ.files.length := ⟨_, rfl⟩
  rw [← hm] at hR ⊢
  clear hm
  obtain ⟨w1, hw1⟩ : ∃ w1, w.alloc (.cells #[.pointer (some ⟨db, 0, none⟩), .slice A m c, .int .i64 σ.room, .slice none 0 0, .int .i64 σ.next, .bool false] 31) = w1 := ⟨_, rfl⟩
  have hs1 : w1.heap.size = w.heap.size + 1 := by rw [← hw1]; simp
  have hb1 : Below w.heap.size w w1 := by rw [← hw1]; exact (Below.refl _ _).alloc (Nat.le_refl _) _
  have hx1 : w1.heap[w.heap.size]? = some (.cells #[.pointer (some ⟨db, 0, none⟩), .slice A m c, .int .i64 σ.room, .slice none 0 0, .int .i64 σ.next, .bool false] 31 (0, 0)) := by rw [← hw1]; exact alloc_at w _
  obtain ⟨w2, hw2⟩ : ∃ w2, w1.alloc (.cells #[.int .i64 0, .string nme, .string tn, .string s, .int .i64 n, .int .i64 a1, .int .i64 a2, .int .i64 a3] 34) = w2 := ⟨_, rfl⟩
  have hs2 : w2.heap.size = w.heap.size + 2 := by rw [← hw2]; simp; omega
  have hb2 : Below w.heap.size w w2 := by rw [← hw2]; exact hb1.alloc hb1.size _
  have hx2 : w2.heap[w.heap.size]? = some (.cells #[.pointer (some ⟨db, 0, none⟩), .slice A m c, .int .i64 σ.room, .slice none 0 0, .int .i64 σ.next, .bool false] 31 (0, 0)) := by rw [← hw2]; exact (Below.heap_alloc w1 _ _ (blk_lt hx1)).trans hx1
  have ha2 : w2.heap[w.heap.size + 1]? = some (.cells #[.int .i64 0, .string nme, .string tn, .string s, .int .i64 n, .int .i64 a1, .int .i64 a2, .int .i64 a3] 34 (0, 0)) := by rw [← hw2, ← hs1]; exact alloc_at w1 _
  obtain ⟨w3, hw3⟩ : ∃ w3, w2.alloc (.cells #[.pointer none, .slice none 0 0, .int .i64 0, .slice none 0 0, .int .i64 0, .bool false] 31) = w3 := ⟨_, rfl⟩
  have HB3 := Lib.hid (show Below w.heap.size w w3 by rw [← hw3]; exact hb2.alloc hb2.size _)
  have HX3 := Lib.hid (show w3.heap[w.heap.size]? = some (.cells #[.pointer (some ⟨db, 0, none⟩), .slice A m c, .int .i64 σ.room, .slice none 0 0, .int .i64 σ.next, .bool false] 31 (0, 0)) by rw [← hw3]; exact (Below.heap_alloc w2 _ _ (blk_lt hx2)).trans hx2)
  have HA3 := Lib.hid (show w3.heap[w.heap.size + 1]? = some (.cells #[.int .i64 0, .string nme, .string tn, .string s, .int .i64 n, .int .i64 a1, .int .i64 a2, .int .i64 a3] 34 (0, 0)) by rw [← hw3]; exact (Below.heap_alloc w2 _ _ (blk_lt ha2)).trans ha2)
  have HY3 := Lib.hid (show w3.heap[w.heap.size + 2]? = some (.cells #[.pointer none, .slice none 0 0, .int .i64 0, .slice none 0 0, .int .i64 0, .bool false] 31 (0, 0)) by rw [← hw3, ← hs2]; exact alloc_at w2 _)
  have HF6 := few_size s
  have HP := Lib.hid (fun W (hW : Below w3.heap.size w3 W) => append_d ((hD.below HB3.out).below hW) hF nme (few s) hnme (by omega))
  have HR := Lib.hid (fun W (hW : Turned lo w3 W) => rput_pd σ (.slice A m c) W (IsR.turned (IsR.below hR HB3.out) hW) hp hF.len hD.rises (fun p hp => hF.file hp) (Nat.le_trans (used_mass σ) hF.mass) ⟨hF.next0, hF.next1⟩ hF.room nme (few s, false) hnme (by show (few s).size ≤ _; omega))
  have HFew := Lib.hid (few_any s hss)
  clear HF6
  generalize hst : σ.put nme (few s, false) = st at HP HR ⊢
  clear hx1 hx2 ha2 hb1 hb2 hR hD hst
  go_enter Try.func22, Try.ntmps22
  have x0 : w3.cell? ⟨w.heap.size, 0, none⟩ = some (.pointer (some ⟨db, 0, none⟩)) := cell_in HX3.out 0
  have q0 : w3.cell? ⟨w.heap.size + 1, 0, none⟩ = some (.int .i64 0) := cell_in HA3.out 0
  have q1 : w3.cell? ⟨w.heap.size + 1, 1, none⟩ = some (.string nme) := cell_in HA3.out 1
  have q3 : w3.cell? ⟨w.heap.size + 1, 3, none⟩ = some (.string s) := cell_in HA3.out 3
  have x0d : w3.drew.cell? ⟨w.heap.size, 0, none⟩ = some (.pointer (some ⟨db, 0, none⟩)) := x0
  have q1d : w3.drew.cell? ⟨w.heap.size + 1, 1, none⟩ = some (.string nme) := q1
  have q3d : w3.drew.cell? ⟨w.heap.size + 1, 3, none⟩ = some (.string s) := q3
  go_upto_region 3 with fail
  go_region_held3 (fun w' => w'.cell? ⟨w.heap.size, 0, none⟩ = some (.pointer (some ⟨db, 0, none⟩)) ∧ w'.cell? ⟨w.heap.size + 1, 1, none⟩ = some (.string nme) ∧ w'.cell? ⟨w.heap.size + 1, 3, none⟩ = some (.string s))
    (first
      | with_reducible exact ⟨x0d, q1d, q3d⟩
      | with_reducible exact ⟨z0, z1, z3⟩)
    (first
      | (go_at_call 39; refine (HFew.out _).mono ?_; rintro e' wF ⟨rfl, rfl⟩)
      | (go_at_call 8; refine (HP.out _ (by first | exact below_drew (Below.refl _ _) | exact pw_below_drewN (Below.refl _ _) _)).mono ?_; rintro e' w4 ⟨rfl, hD4, hT4'⟩; have hT4 : Turned lo w3 w4 := (Turned.of_below (pw_below_drewN (Below.refl _ _) _)).trans hT4'; have z0 : w4.cell? ⟨w.heap.size, 0, none⟩ = some (.pointer (some ⟨db, 0, none⟩)) := cell_in (turned_block HX3.out (by decide) hT4) 0; have z1 : w4.cell? ⟨w.heap.size + 1, 1, none⟩ = some (.string nme) := cell_in (turned_block HA3.out (by decide) hT4) 1; have z3 : w4.cell? ⟨w.heap.size + 1, 3, none⟩ = some (.string s) := cell_in (turned_block HA3.out (by decide) hT4) 3))
  have HD4 := Lib.hid hD4
  have HT4 := Lib.hid hT4
  have HX4 := Lib.hid (turned_block HX3.out (by decide) hT4)
  have HA4 := Lib.hid (turned_block HA3.out (by decide) hT4)
  have HY4 := Lib.hid (turned_block HY3.out (by decide) hT4)
  clear x0 q0 q1 q3 hD4 hT4 hT4' z0 z1 z3 x0d q1d q3d
  have x0 : w4.cell? ⟨w.heap.size, 0, none⟩ = some (.pointer (some ⟨db, 0, none⟩)) := cell_in HX4.out 0
  have x1 : w4.cell? ⟨w.heap.size, 1, none⟩ = some (.slice A m c) := cell_in HX4.out 1
  have x2 : w4.cell? ⟨w.heap.size, 2, none⟩ = some (.int .i64 σ.room) := cell_in HX4.out 2
  have x3 : w4.cell? ⟨w.heap.size, 3, none⟩ = some (.slice none 0 0) := cell_in HX4.out 3
  have x4 : w4.cell? ⟨w.heap.size, 4, none⟩ = some (.int .i64 σ.next) := cell_in HX4.out 4
  have x5 : w4.cell? ⟨w.heap.size, 5, none⟩ = some (.bool false) := cell_in HX4.out 5
  have q1 : w4.cell? ⟨w.heap.size + 1, 1, none⟩ = some (.string nme) := cell_in HA4.out 1
  have q3 : w4.cell? ⟨w.heap.size + 1, 3, none⟩ = some (.string s) := cell_in HA4.out 3
  have fz4 := free_in HX4.out
  have HTD := Lib.hid (show ∀ W, Below w4.heap.size w4 W → Turned lo w3 W from fun W hW => HT4.out.trans (Turned.of_below hW))
  have q1d : w4.drew.cell? ⟨w.heap.size + 1, 1, none⟩ = some (.string nme) := q1
  have q3d : w4.drew.cell? ⟨w.heap.size + 1, 3, none⟩ = some (.string s) := q3
  go_upto_region 4 with fail
  go_region_with
    (first
      | (go_at_call 39; refine (HFew.out _).mono ?_; rintro e' wF ⟨rfl, rfl⟩)
      | (go_at_call 40; refine (HR.out _ (HTD.out _ (by first | exact below_drew (Below.refl _ _) | exact pw_below_drewN (Below.refl _ _) _))).mono ?_; rintro e' w5 ⟨vf', rfl, hR5, hb5'⟩; have hb5 : Below w4.heap.size w4 w5 := tr_below (pw_below_drewN (Below.refl _ _) _) hb5'; obtain ⟨A5, c5, rfl⟩ := Kd.R_slice hR5; obtain ⟨m5, hm5⟩ : ∃ m5, m5 = st.1.files.length := ⟨_, rfl⟩; rw [← hm5]; rw [← hm5] at hR5; have HM5 := Lib.hid hm5; clear hm5; have z := (hb5.block _ (blk_lt HX4.out)).trans HX4.out; have u1 : w5.cell? ⟨w.heap.size, 1, none⟩ = some (.slice A m c) := cell_in z 1; have u2 : w5.cell? ⟨w.heap.size, 2, none⟩ = some (.int .i64 σ.room) := cell_in z 2; have u3 : w5.cell? ⟨w.heap.size, 3, none⟩ = some (.slice none 0 0) := cell_in z 3; have u4 : w5.cell? ⟨w.heap.size, 4, none⟩ = some (.int .i64 σ.next) := cell_in z 4; have u5 : w5.cell? ⟨w.heap.size, 5, none⟩ = some (.bool false) := cell_in z 5; have HR5 := Lib.hid hR5; clear hR5; have y1 : w5.cell? ⟨w.heap.size + 1, 1, none⟩ = some (.string nme) := cell_in ((hb5.block _ (blk_lt HA4.out)).trans HA4.out) 1; have y3 : w5.cell? ⟨w.heap.size + 1, 3, none⟩ = some (.string s) := cell_in ((hb5.block _ (blk_lt HA4.out)).trans HA4.out) 3; have fz := free_in z))
  all_goals
    have HX5 := Lib.hid ((hb5.block _ (blk_lt HX4.out)).trans HX4.out)
    have HY5 := Lib.hid ((hb5.block _ (blk_lt HY4.out)).trans HY4.out)
    have HB5 := Lib.hid hb5
    clear hb5 hb5' x0 x1 x2 x3 x4 x5 q1 q3 q1d q3d y1 y3 u1 u2 u3 u4 u5 z fz fz4
    have x0 : w5.cell? ⟨w.heap.size, 0, none⟩ = some (.pointer (some ⟨db, 0, none⟩)) := cell_in HX5.out 0
    have x1 : w5.cell? ⟨w.heap.size, 1, none⟩ = some (.slice A m c) := cell_in HX5.out 1
    have x2 : w5.cell? ⟨w.heap.size, 2, none⟩ = some (.int .i64 σ.room) := cell_in HX5.out 2
    have x3 : w5.cell? ⟨w.heap.size, 3, none⟩ = some (.slice none 0 0) := cell_in HX5.out 3
    have x4 : w5.cell? ⟨w.heap.size, 4, none⟩ = some (.int .i64 σ.next) := cell_in HX5.out 4
    have x5 : w5.cell? ⟨w.heap.size, 5, none⟩ = some (.bool false) := cell_in HX5.out 5
    have y0 : w5.cell? ⟨w.heap.size + 2, 0, none⟩ = some (.pointer none) := cell_in HY5.out 0
    have y1 : w5.cell? ⟨w.heap.size + 2, 1, none⟩ = some (.slice none 0 0) := cell_in HY5.out 1
    have y2 : w5.cell? ⟨w.heap.size + 2, 2, none⟩ = some (.int .i64 0) := cell_in HY5.out 2
    have y3 : w5.cell? ⟨w.heap.size + 2, 3, none⟩ = some (.slice none 0 0) := cell_in HY5.out 3
    have y4 : w5.cell? ⟨w.heap.size + 2, 4, none⟩ = some (.int .i64 0) := cell_in HY5.out 4
    have y5 : w5.cell? ⟨w.heap.size + 2, 5, none⟩ = some (.bool false) := cell_in HY5.out 5
    have fz := free_in HX5.out
    have fy := free_in HY5.out
    go_wp2_with fail
    have e5 := blk_set (blk_set (blk_set (blk_set (blk_set HX5.out 1 (.slice A5 m5 c5)) 2 (.int .i64 st.1.room)) 3 (.slice none 0 0)) 4 (.int .i64 st.1.next)) 5 (.bool false)
    have f5 := (sets_other w5 w.heap.size (w.heap.size + 2) [(1, .slice A5 m5 c5), (2, .int .i64 st.1.room), (3, .slice none 0 0), (4, .int .i64 st.1.next), (5, .bool false)] (by omega)).trans HY5.out
    refine bodyPost_ret (results_ctt rfl _ _ (w.heap.size + 2) 31 #[.pointer (some ⟨db, 0, none⟩), .slice A5 m5 c5, .int .i64 st.1.room, .slice none 0 0, .int .i64 st.1.next, .bool false] (0, 0) _ rfl (blk_set (blk_set (blk_set (blk_set (blk_set (blk_set f5 0 _) 1 _) 2 _) 3 _) 4 _) 5 _) Try.underlying31 rfl (by kernel_rfl)) rfl ?_
    refine ⟨.slice A5 m5 c5, rfl, ?_, ?_, ?_⟩
    · exact ((HD4.out.below HB5.out).sets HX5.out (by decide) [(1, _), (2, _), (3, _), (4, _), (5, _)]).sets f5 (by decide) [(0, _), (1, _), (2, _), (3, _), (4, _), (5, _)]
    · exact R_sets (R_sets HR5.out HX5.out (by decide) [(1, _), (2, _), (3, _), (4, _), (5, _)]) f5 (by decide) [(0, _), (1, _), (2, _), (3, _), (4, _), (5, _)]
    · exact ((((Turned.of_below HB3.out).trans HT4.out).trans (Turned.of_below HB5.out)).sets (Nat.le_refl _) [(1, _), (2, _), (3, _), (4, _), (5, _)]).sets (by omega) [(0, _), (1, _), (2, _), (3, _), (4, _), (5, _)]
end Go.Proofs.YtcongfiojbajeaaK
