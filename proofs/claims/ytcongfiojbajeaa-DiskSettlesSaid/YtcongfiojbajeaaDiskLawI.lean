/- The law of the disk: side.act, for changes of files and for the room; what an act does to the plain state. -/
import Derived.Test.YtcongfiojbajeaaDiskLawG2
import Derived.Test.YtcongfiojbajeaaDiskLawG3
import Derived.Test.YtcongfiojbajeaaDiskLawJ
namespace Go.Proofs.YtcongfiojbajeaaK
open Go Go.RowKit Go.Maps Go.Proofs.YtcongfiojbajeaaM Go.Proofs.YtcongfiojbajeaaW.PrintWords Go.Proofs.YtcongfiojbajeaaN
variable {lo : Nat}
set_option linter.unusedVariables false
set_option linter.unusedSimpArgs false
theorem files_any (k : Int) (hk : 0 ≤ k ∧ k ≤ 5) (σ : PD) (vf : Value) (db : Nat) (w : World) (hD : IsD lo w db σ) (hR : IsR w vf σ) (hF : σ.Fit) (hp : σ.power = true) (nme tn s : ByteArray) (n a1 a2 a3 : Int) (hnme : nme.size ≤ 9223372036854775807) (hto : tn.size ≤ 9223372036854775807) (hss : s.size ≤ 9223372036854775807) :
    Calls Try.prog 22 #[.agg (sv db vf σ), .agg #[.int .i64 k, .string nme, .string tn, .string s, .int .i64 n, .int .i64 a1, .int .i64 a2, .int .i64 a3]] w fun e' w' => ∃ vf', e' = .returned (.tuple #[.agg (sv db vf' (σ.step k nme tn s n).1), .int .i64 (σ.step k nme tn s n).2, .int .i64 (σ.step k nme tn s n).2]) ∧ IsD lo w' db (σ.step k nme tn s n).1 ∧ IsR w' vf' (σ.step k nme tn s n).1 ∧ Turned lo w w' := by
  rcases (by omega : k = 0 ∨ k = 1 ∨ k = 2 ∨ k = 3 ∨ k = 4 ∨ k = 5) with rfl | rfl | rfl | rfl | rfl | rfl
  · have e : σ.step 0 nme tn s n = σ.put nme (few s, false) := by unfold PD.step; simp
    rw [e]; exact files_append σ vf db w hD hR hF hp nme tn s n a1 a2 a3 hnme hss
  · have e : σ.step 1 nme tn s n = σ.put nme (few s, true) := by unfold PD.step; simp
    rw [e]; exact files_write σ vf db w hD hR hF hp nme tn s n a1 a2 a3 hnme hss
  · have e : σ.step 2 nme tn s n = σ.move nme tn := by unfold PD.step; simp
    rw [e]; exact files_move σ vf db w hD hR hF hp nme tn s n a1 a2 a3 hnme hto
  · have e : σ.step 3 nme tn s n = σ.cut nme (-1) true := by unfold PD.step; simp
    rw [e]; exact files_gone σ vf db w hD hR hF hp nme tn s n a1 a2 a3 hnme
  · have e : σ.step 4 nme tn s n = σ.cut nme n false := by unfold PD.step; simp
    rw [e]; exact files_cut σ vf db w hD hR hF hp nme tn s n a1 a2 a3 hnme
  · have e : σ.step 5 nme tn s n = σ.sync := by unfold PD.step; simp
    rw [e]; exact files_sync σ vf db w hD hR hF hp nme tn s n a1 a2 a3
set_option maxHeartbeats 8000000 in
set_option maxRecDepth 100000 in
theorem act_any (k : Int) (hk : 0 ≤ k ∧ k ≤ 5) (σ : PD) (vf : Value) (db : Nat) (w : World) (hD : IsD lo w db σ) (hR : IsR w vf σ) (hF : σ.Fit) (hp : σ.power = true) (nme tn s : ByteArray) (n a1 a2 a3 : Int) (hnme : nme.size ≤ 9223372036854775807) (hto : tn.size ≤ 9223372036854775807) (hss : s.size ≤ 9223372036854775807) :
    Calls Try.prog 6 #[.agg (sv db vf σ), .agg #[.int .i64 k, .string nme, .string tn, .string s, .int .i64 n, .int .i64 a1, .int .i64 a2, .int .i64 a3]] w fun e' w' => ∃ vf', e' = .returned (.tuple #[.agg (sv db vf' (σ.step k nme tn s n).1), .bool true]) ∧ IsD lo w' db (σ.step k nme tn s n).1 ∧ IsR w' vf' (σ.step k nme tn s n).1 ∧ Turned lo w w' := by
  obtain ⟨A, c, rfl⟩ := Kd.R_slice hR
  obtain ⟨m, hm⟩ : ∃ m, m = σ.files.length := ⟨_, rfl⟩
  rw [← hm] at hR ⊢
  clear hm
  obtain ⟨w1, hw1⟩ : ∃ w1, w.alloc (.cells #[.pointer (some ⟨db, 0, none⟩), .slice A m c, .int .i64 σ.room, .slice none 0 0, .int .i64 σ.next, .bool false] 31) = w1 := ⟨_, rfl⟩
  have hs1 : w1.heap.size = w.heap.size + 1 := by rw [← hw1]; simp
  have hb1 : Below w.heap.size w w1 := by rw [← hw1]; exact (Below.refl _ _).alloc (Nat.le_refl _) _
  have hx1 : w1.heap[w.heap.size]? = some (.cells #[.pointer (some ⟨db, 0, none⟩), .slice A m c, .int .i64 σ.room, .slice none 0 0, .int .i64 σ.next, .bool false] 31 (0, 0)) := by rw [← hw1]; exact alloc_at w _
  obtain ⟨w2, hw2⟩ : ∃ w2, w1.alloc (.cells #[.int .i64 k, .string nme, .string tn, .string s, .int .i64 n, .int .i64 a1, .int .i64 a2, .int .i64 a3] 34) = w2 := ⟨_, rfl⟩
  have hs2 : w2.heap.size = w.heap.size + 2 := by rw [← hw2]; simp; omega
  have hb2 : Below w.heap.size w w2 := by rw [← hw2]; exact hb1.alloc hb1.size _
  have hx2 : w2.heap[w.heap.size]? = some (.cells #[.pointer (some ⟨db, 0, none⟩), .slice A m c, .int .i64 σ.room, .slice none 0 0, .int .i64 σ.next, .bool false] 31 (0, 0)) := by rw [← hw2]; exact (Below.heap_alloc w1 _ _ (blk_lt hx1)).trans hx1
  have ha2 : w2.heap[w.heap.size + 1]? = some (.cells #[.int .i64 k, .string nme, .string tn, .string s, .int .i64 n, .int .i64 a1, .int .i64 a2, .int .i64 a3] 34 (0, 0)) := by rw [← hw2, ← hs1]; exact alloc_at w1 _
  obtain ⟨w3, hw3⟩ : ∃ w3, w2.alloc (.cells #[.pointer none, .slice none 0 0, .int .i64 0, .slice none 0 0, .int .i64 0, .bool false] 31) = w3 := ⟨_, rfl⟩
  have HB3 := Lib.hid (show Below w.heap.size w w3 by rw [← hw3]; exact hb2.alloc hb2.size _)
  have HX3 := Lib.hid (show w3.heap[w.heap.size]? = some (.cells #[.pointer (some ⟨db, 0, none⟩), .slice A m c, .int .i64 σ.room, .slice none 0 0, .int .i64 σ.next, .bool false] 31 (0, 0)) by rw [← hw3]; exact (Below.heap_alloc w2 _ _ (blk_lt hx2)).trans hx2)
  have HA3 := Lib.hid (show w3.heap[w.heap.size + 1]? = some (.cells #[.int .i64 k, .string nme, .string tn, .string s, .int .i64 n, .int .i64 a1, .int .i64 a2, .int .i64 a3] 34 (0, 0)) by rw [← hw3]; exact (Below.heap_alloc w2 _ _ (blk_lt ha2)).trans ha2)
  have HY3 := Lib.hid (show w3.heap[w.heap.size + 2]? = some (.cells #[.pointer none, .slice none 0 0, .int .i64 0, .slice none 0 0, .int .i64 0, .bool false] 31 (0, 0)) by rw [← hw3, ← hs2]; exact alloc_at w2 _)
  have HP := Lib.hid (files_any k hk σ (.slice A m c) db w3 (hD.below HB3.out) (IsR.below hR HB3.out) hF hp nme tn s n a1 a2 a3 hnme hto hss)
  generalize hst : σ.step k nme tn s n = st at HP ⊢
  clear hx1 hx2 ha2 hb1 hb2 hR hD hst
  have k6 : decide (k = 6) = false := decide_eq_false (by omega)
  have k7 : decide (k = 7) = false := decide_eq_false (by omega)
  have k8 : decide (k = 8) = false := decide_eq_false (by omega)
  have k9 : decide (k = 9) = false := decide_eq_false (by omega)
  go_enter Try.func6, Try.ntmps6
  have x0 : w3.cell? ⟨w.heap.size, 0, none⟩ = some (.pointer (some ⟨db, 0, none⟩)) := cell_in HX3.out 0
  have x1 : w3.cell? ⟨w.heap.size, 1, none⟩ = some (.slice A m c) := cell_in HX3.out 1
  have x2 : w3.cell? ⟨w.heap.size, 2, none⟩ = some (.int .i64 σ.room) := cell_in HX3.out 2
  have x3 : w3.cell? ⟨w.heap.size, 3, none⟩ = some (.slice none 0 0) := cell_in HX3.out 3
  have x4 : w3.cell? ⟨w.heap.size, 4, none⟩ = some (.int .i64 σ.next) := cell_in HX3.out 4
  have x5 : w3.cell? ⟨w.heap.size, 5, none⟩ = some (.bool false) := cell_in HX3.out 5
  have q0 : w3.cell? ⟨w.heap.size + 1, 0, none⟩ = some (.int .i64 k) := cell_in HA3.out 0
  have q1 : w3.cell? ⟨w.heap.size + 1, 1, none⟩ = some (.string nme) := cell_in HA3.out 1
  have q2 : w3.cell? ⟨w.heap.size + 1, 2, none⟩ = some (.string tn) := cell_in HA3.out 2
  have q3 : w3.cell? ⟨w.heap.size + 1, 3, none⟩ = some (.string s) := cell_in HA3.out 3
  have q4 : w3.cell? ⟨w.heap.size + 1, 4, none⟩ = some (.int .i64 n) := cell_in HA3.out 4
  have q5 : w3.cell? ⟨w.heap.size + 1, 5, none⟩ = some (.int .i64 a1) := cell_in HA3.out 5
  have q6 : w3.cell? ⟨w.heap.size + 1, 6, none⟩ = some (.int .i64 a2) := cell_in HA3.out 6
  have q7 : w3.cell? ⟨w.heap.size + 1, 7, none⟩ = some (.int .i64 a3) := cell_in HA3.out 7
  go_wp2_with fail
  refine HP.out.mono ?_
  rintro e' w5 ⟨vf', rfl, hD5, hR5, hT5⟩
  have HX5 := Lib.hid (turned_block HX3.out (by decide) hT5)
  have HY5 := Lib.hid (turned_block HY3.out (by decide) hT5)
  obtain ⟨A5, c5, rfl⟩ := Kd.R_slice hR5
  obtain ⟨m5, hm5⟩ : ∃ m5, m5 = st.1.files.length := ⟨_, rfl⟩
  rw [← hm5] at hR5 ⊢
  have HR5 := Lib.hid hR5
  have HD5 := Lib.hid hD5
  have HT5 := Lib.hid hT5
  clear hm5 hR5 hD5 hT5 x0 x1 x2 x3 x4 x5 q0 q1 q2 q3 q4 q5 q6 q7
  have x0 : w5.cell? ⟨w.heap.size, 0, none⟩ = some (.pointer (some ⟨db, 0, none⟩)) := cell_in HX5.out 0
  have x1 : w5.cell? ⟨w.heap.size, 1, none⟩ = some (.slice A m c) := cell_in HX5.out 1
  have x2 : w5.cell? ⟨w.heap.size, 2, none⟩ = some (.int .i64 σ.room) := cell_in HX5.out 2
  have x3 : w5.cell? ⟨w.heap.size, 3, none⟩ = some (.slice none 0 0) := cell_in HX5.out 3
  have x4 : w5.cell? ⟨w.heap.size, 4, none⟩ = some (.int .i64 σ.next) := cell_in HX5.out 4
  have x5 : w5.cell? ⟨w.heap.size, 5, none⟩ = some (.bool false) := cell_in HX5.out 5
  have y0 : w5.cell? ⟨w.heap.size + 2, 0, none⟩ = some (.pointer none) := cell_in HY5.out 0
  have y1 : w5.cell? ⟨w.heap.size + 2, 1, none⟩ = some (.slice none 0 0) := cell_in HY5.out 1
  have y2 : w5.cell? ⟨w.heap.size + 2, 2, none⟩ = some (.int .i64 0) := cell_in HY5.out 2
  have y3 : w5.cell? ⟨w.heap.size + 2, 3, none⟩ = some (.slice none 0 0) := cell_in HY5.out 3
  have y4 : w5.cell? ⟨w.heap.size + 2, 4, none⟩ = some (.int .i64 0) := cell_in HY5.out 4
  have y5 : w5.cell? ⟨w.heap.size + 2, 5, none⟩ = some (.bool false) := cell_in HY5.out 5
  have fz := free_in HX5.out
  have fy := free_in HY5.out
  go_wp2_with fail
  have e5 := blk_set (blk_set (blk_set (blk_set (blk_set (blk_set HX5.out 0 (.pointer (some ⟨db, 0, none⟩))) 1 (.slice A5 m5 c5)) 2 (.int .i64 st.1.room)) 3 (.slice none 0 0)) 4 (.int .i64 st.1.next)) 5 (.bool false)
  have f5 := (sets_other w5 w.heap.size (w.heap.size + 2) [(0, .pointer (some ⟨db, 0, none⟩)), (1, .slice A5 m5 c5), (2, .int .i64 st.1.room), (3, .slice none 0 0), (4, .int .i64 st.1.next), (5, .bool false)] (by omega)).trans HY5.out
  refine bodyPost_ret (results_ct rfl _ _ (w.heap.size + 2) 31 #[.pointer (some ⟨db, 0, none⟩), .slice A5 m5 c5, .int .i64 st.1.room, .slice none 0 0, .int .i64 st.1.next, .bool false] (0, 0) _ rfl (blk_set (blk_set (blk_set (blk_set (blk_set (blk_set f5 0 _) 1 _) 2 _) 3 _) 4 _) 5 _) Try.underlying31 rfl (by kernel_rfl)) rfl ?_
  refine ⟨.slice A5 m5 c5, rfl, ?_, ?_, ?_⟩
  · exact (HD5.out.sets HX5.out (by decide) [(0, _), (1, _), (2, _), (3, _), (4, _), (5, _)]).sets f5 (by decide) [(0, _), (1, _), (2, _), (3, _), (4, _), (5, _)]
  · exact R_sets (R_sets HR5.out HX5.out (by decide) [(0, _), (1, _), (2, _), (3, _), (4, _), (5, _)]) f5 (by decide) [(0, _), (1, _), (2, _), (3, _), (4, _), (5, _)]
  · exact (((Turned.of_below HB3.out).trans HT5.out).sets (Nat.le_refl _) [(0, _), (1, _), (2, _), (3, _), (4, _), (5, _)]).sets (by omega) [(0, _), (1, _), (2, _), (3, _), (4, _), (5, _)]
set_option maxHeartbeats 8000000 in
set_option maxRecDepth 100000 in
theorem act_room (σ : PD) (vf : Value) (db : Nat) (w : World) (hD : IsD lo w db σ) (hR : IsR w vf σ) (nme tn s : ByteArray) (n a1 a2 a3 : Int) :
    Calls Try.prog 6 #[.agg (sv db vf σ), .agg #[.int .i64 8, .string nme, .string tn, .string s, .int .i64 n, .int .i64 a1, .int .i64 a2, .int .i64 a3]] w fun e' w' => e' = .returned (.tuple #[.agg (sv db vf { σ with room := n }), .bool true]) ∧ IsD lo w' db { σ with room := n } ∧ IsR w' vf { σ with room := n } ∧ Turned lo w w' := by
  obtain ⟨A, c, rfl⟩ := Kd.R_slice hR
  obtain ⟨m, hm⟩ : ∃ m, m = σ.files.length := ⟨_, rfl⟩
  rw [← hm] at hR ⊢
  clear hm
  obtain ⟨w1, hw1⟩ : ∃ w1, w.alloc (.cells #[.pointer (some ⟨db, 0, none⟩), .slice A m c, .int .i64 σ.room, .slice none 0 0, .int .i64 σ.next, .bool false] 31) = w1 := ⟨_, rfl⟩
  have hs1 : w1.heap.size = w.heap.size + 1 := by rw [← hw1]; simp
  have hb1 : Below w.heap.size w w1 := by rw [← hw1]; exact (Below.refl _ _).alloc (Nat.le_refl _) _
  have hx1 : w1.heap[w.heap.size]? = some (.cells #[.pointer (some ⟨db, 0, none⟩), .slice A m c, .int .i64 σ.room, .slice none 0 0, .int .i64 σ.next, .bool false] 31 (0, 0)) := by rw [← hw1]; exact alloc_at w _
  obtain ⟨w2, hw2⟩ : ∃ w2, w1.alloc (.cells #[.int .i64 8, .string nme, .string tn, .string s, .int .i64 n, .int .i64 a1, .int .i64 a2, .int .i64 a3] 34) = w2 := ⟨_, rfl⟩
  have hs2 : w2.heap.size = w.heap.size + 2 := by rw [← hw2]; simp; omega
  have hb2 : Below w.heap.size w w2 := by rw [← hw2]; exact hb1.alloc hb1.size _
  have hx2 : w2.heap[w.heap.size]? = some (.cells #[.pointer (some ⟨db, 0, none⟩), .slice A m c, .int .i64 σ.room, .slice none 0 0, .int .i64 σ.next, .bool false] 31 (0, 0)) := by rw [← hw2]; exact (Below.heap_alloc w1 _ _ (blk_lt hx1)).trans hx1
  have ha2 : w2.heap[w.heap.size + 1]? = some (.cells #[.int .i64 8, .string nme, .string tn, .string s, .int .i64 n, .int .i64 a1, .int .i64 a2, .int .i64 a3] 34 (0, 0)) := by rw [← hw2, ← hs1]; exact alloc_at w1 _
  obtain ⟨w3, hw3⟩ : ∃ w3, w2.alloc (.cells #[.pointer none, .slice none 0 0, .int .i64 0, .slice none 0 0, .int .i64 0, .bool false] 31) = w3 := ⟨_, rfl⟩
  have HB3 := Lib.hid (show Below w.heap.size w w3 by rw [← hw3]; exact hb2.alloc hb2.size _)
  have HX3 := Lib.hid (show w3.heap[w.heap.size]? = some (.cells #[.pointer (some ⟨db, 0, none⟩), .slice A m c, .int .i64 σ.room, .slice none 0 0, .int .i64 σ.next, .bool false] 31 (0, 0)) by rw [← hw3]; exact (Below.heap_alloc w2 _ _ (blk_lt hx2)).trans hx2)
  have HA3 := Lib.hid (show w3.heap[w.heap.size + 1]? = some (.cells #[.int .i64 8, .string nme, .string tn, .string s, .int .i64 n, .int .i64 a1, .int .i64 a2, .int .i64 a3] 34 (0, 0)) by rw [← hw3]; exact (Below.heap_alloc w2 _ _ (blk_lt ha2)).trans ha2)
  have HY3 := Lib.hid (show w3.heap[w.heap.size + 2]? = some (.cells #[.pointer none, .slice none 0 0, .int .i64 0, .slice none 0 0, .int .i64 0, .bool false] 31 (0, 0)) by rw [← hw3, ← hs2]; exact alloc_at w2 _)
  have HP := Lib.hid (room_d (hD.below HB3.out) n)
  have HRb := Lib.hid (IsR.below hR HB3.out)
  clear hx1 hx2 ha2 hb1 hb2 hR hD
  go_enter Try.func6, Try.ntmps6
  have x0 : w3.cell? ⟨w.heap.size, 0, none⟩ = some (.pointer (some ⟨db, 0, none⟩)) := cell_in HX3.out 0
  have q0 : w3.cell? ⟨w.heap.size + 1, 0, none⟩ = some (.int .i64 8) := cell_in HA3.out 0
  have q4 : w3.cell? ⟨w.heap.size + 1, 4, none⟩ = some (.int .i64 n) := cell_in HA3.out 4
  go_wp2_with fail
  refine HP.out.mono ?_
  rintro e' w5 ⟨rfl, hD5, hT5⟩
  have HX5 := Lib.hid (turned_block HX3.out (by decide) hT5)
  have HA5 := Lib.hid (turned_block HA3.out (by decide) hT5)
  have HY5 := Lib.hid (turned_block HY3.out (by decide) hT5)
  have HR5 := Lib.hid (IsR.turned HRb.out hT5)
  have HD5 := Lib.hid hD5
  have HT5 := Lib.hid hT5
  clear hD5 hT5 x0 q0 q4
  have x0 : w5.cell? ⟨w.heap.size, 0, none⟩ = some (.pointer (some ⟨db, 0, none⟩)) := cell_in HX5.out 0
  have x1 : w5.cell? ⟨w.heap.size, 1, none⟩ = some (.slice A m c) := cell_in HX5.out 1
  have x2 : w5.cell? ⟨w.heap.size, 2, none⟩ = some (.int .i64 σ.room) := cell_in HX5.out 2
  have x3 : w5.cell? ⟨w.heap.size, 3, none⟩ = some (.slice none 0 0) := cell_in HX5.out 3
  have x4 : w5.cell? ⟨w.heap.size, 4, none⟩ = some (.int .i64 σ.next) := cell_in HX5.out 4
  have x5 : w5.cell? ⟨w.heap.size, 5, none⟩ = some (.bool false) := cell_in HX5.out 5
  have q4 : w5.cell? ⟨w.heap.size + 1, 4, none⟩ = some (.int .i64 n) := cell_in HA5.out 4
  have y0 : w5.cell? ⟨w.heap.size + 2, 0, none⟩ = some (.pointer none) := cell_in HY5.out 0
  have y1 : w5.cell? ⟨w.heap.size + 2, 1, none⟩ = some (.slice none 0 0) := cell_in HY5.out 1
  have y2 : w5.cell? ⟨w.heap.size + 2, 2, none⟩ = some (.int .i64 0) := cell_in HY5.out 2
  have y3 : w5.cell? ⟨w.heap.size + 2, 3, none⟩ = some (.slice none 0 0) := cell_in HY5.out 3
  have y4 : w5.cell? ⟨w.heap.size + 2, 4, none⟩ = some (.int .i64 0) := cell_in HY5.out 4
  have y5 : w5.cell? ⟨w.heap.size + 2, 5, none⟩ = some (.bool false) := cell_in HY5.out 5
  have fz := free_in HX5.out
  have fy := free_in HY5.out
  go_wp2_with fail
  have e5 := blk_set HX5.out 2 (.int .i64 n)
  have f5 := (sets_other w5 w.heap.size (w.heap.size + 2) [(2, .int .i64 n)] (by omega)).trans HY5.out
  refine bodyPost_ret (results_ct rfl _ _ (w.heap.size + 2) 31 #[.pointer (some ⟨db, 0, none⟩), .slice A m c, .int .i64 n, .slice none 0 0, .int .i64 σ.next, .bool false] (0, 0) _ rfl (blk_set (blk_set (blk_set (blk_set (blk_set (blk_set f5 0 _) 1 _) 2 _) 3 _) 4 _) 5 _) Try.underlying31 rfl (by kernel_rfl)) rfl ?_
  refine ⟨rfl, ?_, ?_, ?_⟩
  · exact (HD5.out.sets HX5.out (by decide) [(2, _)]).sets f5 (by decide) [(0, _), (1, _), (2, _), (3, _), (4, _), (5, _)]
  · exact R_sets (R_sets HR5.out HX5.out (by decide) [(2, _)]) f5 (by decide) [(0, _), (1, _), (2, _), (3, _), (4, _), (5, _)]
  · exact (((Turned.of_below HB3.out).trans HT5.out).sets (Nat.le_refl _) [(2, _)]).sets (by omega) [(0, _), (1, _), (2, _), (3, _), (4, _), (5, _)]
end Go.Proofs.YtcongfiojbajeaaK
