/- The law of the disk: side.files, Kinds 2 and 3. -/
import Derived.Test.YtcongfiojbajeaaDiskLawE
namespace Go.Proofs.YtcongfiojbajeaaK
open Go Go.RowKit Go.Maps Go.Proofs.YtcongfiojbajeaaM Go.Proofs.YtcongfiojbajeaaW.PrintWords Go.Proofs.YtcongfiojbajeaaN
variable {lo : Nat}
set_option linter.unusedVariables false
set_option linter.unusedSimpArgs false
set_option maxHeartbeats 4000000 in
set_option maxRecDepth 100000 in
theorem files_gone (σ : PD) (vf : Value) (db : Nat) (w : World) (hD : IsD lo w db σ) (hR : IsR w vf σ) (hF : σ.Fit) (hp : σ.power = true) (nme tn s : ByteArray) (n a1 a2 a3 : Int) (hnme : nme.size ≤ 9223372036854775807) :
    Calls Try.prog 22 #[.agg (sv db vf σ), .agg #[.int .i64 3, .string nme, .string tn, .string s, .int .i64 n, .int .i64 a1, .int .i64 a2, .int .i64 a3]] w fun e' w' => ∃ vf', e' = .returned (.tuple #[.agg (sv db vf' (σ.cut nme (-1) true).1), .int .i64 (σ.cut nme (-1) true).2, .int .i64 (σ.cut nme (-1) true).2]) ∧ IsD lo w' db (σ.cut nme (-1) true).1 ∧ IsR w' vf' (σ.cut nme (-1) true).1 ∧ Turned lo w w' := by
  obtain ⟨A, c, rfl⟩ := Kd.R_slice hR
  obtain ⟨m, hm⟩ : ∃ m, m = σ.files.length := ⟨_, rfl⟩
  rw [← hm] at hR ⊢
  clear hm
  obtain ⟨w1, hw1⟩ : ∃ w1, w.alloc (.cells #[.pointer (some ⟨db, 0, none⟩), .slice A m c, .int .i64 σ.room, .slice none 0 0, .int .i64 σ.next, .bool false] 31) = w1 := ⟨_, rfl⟩
  have hs1 : w1.heap.size = w.heap.size + 1 := by rw [← hw1]; simp
  have hb1 : Below w.heap.size w w1 := by rw [← hw1]; exact (Below.refl _ _).alloc (Nat.le_refl _) _
  have hx1 : w1.heap[w.heap.size]? = some (.cells #[.pointer (some ⟨db, 0, none⟩), .slice A m c, .int .i64 σ.room, .slice none 0 0, .int .i64 σ.next, .bool false] 31 (0, 0)) := by rw [← hw1]; exact alloc_at w _
  obtain ⟨w2, hw2⟩ : ∃ w2, w1.alloc (.cells #[.int .i64 3, .string nme, .string tn, .string s, .int .i64 n, .int .i64 a1, .int .i64 a2, .int .i64 a3] 34) = w2 := ⟨_, rfl⟩
  have hs2 : w2.heap.size = w.heap.size + 2 := by rw [← hw2]; simp; omega
  have hb2 : Below w.heap.size w w2 := by rw [← hw2]; exact hb1.alloc hb1.size _
  have hx2 : w2.heap[w.heap.size]? = some (.cells #[.pointer (some ⟨db, 0, none⟩), .slice A m c, .int .i64 σ.room, .slice none 0 0, .int .i64 σ.next, .bool false] 31 (0, 0)) := by rw [← hw2]; exact (Below.heap_alloc w1 _ _ (blk_lt hx1)).trans hx1
  have ha2 : w2.heap[w.heap.size + 1]? = some (.cells #[.int .i64 3, .string nme, .string tn, .string s, .int .i64 n, .int .i64 a1, .int .i64 a2, .int .i64 a3] 34 (0, 0)) := by rw [← hw2, ← hs1]; exact alloc_at w1 _
  obtain ⟨w3, hw3⟩ : ∃ w3, w2.alloc (.cells #[.pointer none, .slice none 0 0, .int .i64 0, .slice none 0 0, .int .i64 0, .bool false] 31) = w3 := ⟨_, rfl⟩
  have HB3 := Lib.hid (show Below w.heap.size w w3 by rw [← hw3]; exact hb2.alloc hb2.size _)
  have HX3 := Lib.hid (show w3.heap[w.heap.size]? = some (.cells #[.pointer (some ⟨db, 0, none⟩), .slice A m c, .int .i64 σ.room, .slice none 0 0, .int .i64 σ.next, .bool false] 31 (0, 0)) by rw [← hw3]; exact (Below.heap_alloc w2 _ _ (blk_lt hx2)).trans hx2)
  have HA3 := Lib.hid (show w3.heap[w.heap.size + 1]? = some (.cells #[.int .i64 3, .string nme, .string tn, .string s, .int .i64 n, .int .i64 a1, .int .i64 a2, .int .i64 a3] 34 (0, 0)) by rw [← hw3]; exact (Below.heap_alloc w2 _ _ (blk_lt ha2)).trans ha2)
  have HY3 := Lib.hid (show w3.heap[w.heap.size + 2]? = some (.cells #[.pointer none, .slice none 0 0, .int .i64 0, .slice none 0 0, .int .i64 0, .bool false] 31 (0, 0)) by rw [← hw3, ← hs2]; exact alloc_at w2 _)
  have HP := Lib.hid (remove_d (hD.below HB3.out) hF nme hnme (-1))
  have HR := Lib.hid (fun W (hW : Turned lo w3 W) => rcut_pd σ (.slice A m c) W (IsR.turned (IsR.below hR HB3.out) hW) hp hF.len hD.rises (fun p hp => hF.file hp) ⟨hF.next0, hF.next1⟩ nme hnme (-1) true)
  generalize hst : σ.cut nme (-1) true = st at HP HR ⊢
  clear hx1 hx2 ha2 hb1 hb2 hR hD hst
  go_enter Try.func22, Try.ntmps22
  have x0 : w3.cell? ⟨w.heap.size, 0, none⟩ = some (.pointer (some ⟨db, 0, none⟩)) := cell_in HX3.out 0
  have q0 : w3.cell? ⟨w.heap.size + 1, 0, none⟩ = some (.int .i64 3) := cell_in HA3.out 0
  have q1 : w3.cell? ⟨w.heap.size + 1, 1, none⟩ = some (.string nme) := cell_in HA3.out 1
  have q4 : w3.cell? ⟨w.heap.size + 1, 4, none⟩ = some (.int .i64 n) := cell_in HA3.out 4
  go_wp2_with fail
  refine HP.out.mono ?_
  rintro e' w4 ⟨rfl, hD4, hT4⟩
  have HD4 := Lib.hid hD4
  have HT4 := Lib.hid hT4
  have HX4 := Lib.hid (turned_block HX3.out (by decide) hT4)
  have HA4 := Lib.hid (turned_block HA3.out (by decide) hT4)
  have HY4 := Lib.hid (turned_block HY3.out (by decide) hT4)
  clear x0 q0 q1 q4 hD4 hT4
  have x0 : w4.cell? ⟨w.heap.size, 0, none⟩ = some (.pointer (some ⟨db, 0, none⟩)) := cell_in HX4.out 0
  have x1 : w4.cell? ⟨w.heap.size, 1, none⟩ = some (.slice A m c) := cell_in HX4.out 1
  have x2 : w4.cell? ⟨w.heap.size, 2, none⟩ = some (.int .i64 σ.room) := cell_in HX4.out 2
  have x3 : w4.cell? ⟨w.heap.size, 3, none⟩ = some (.slice none 0 0) := cell_in HX4.out 3
  have x4 : w4.cell? ⟨w.heap.size, 4, none⟩ = some (.int .i64 σ.next) := cell_in HX4.out 4
  have x5 : w4.cell? ⟨w.heap.size, 5, none⟩ = some (.bool false) := cell_in HX4.out 5
  have q1 : w4.cell? ⟨w.heap.size + 1, 1, none⟩ = some (.string nme) := cell_in HA4.out 1
  have q4 : w4.cell? ⟨w.heap.size + 1, 4, none⟩ = some (.int .i64 n) := cell_in HA4.out 4
  go_wp2_with fail
  refine (HR.out _ HT4.out).mono ?_
  rintro e' w5 ⟨vf', rfl, hR5, hb5⟩
  have HX5 := Lib.hid ((hb5.block _ (blk_lt HX4.out)).trans HX4.out)
  have HY5 := Lib.hid ((hb5.block _ (blk_lt HY4.out)).trans HY4.out)
  obtain ⟨A5, c5, rfl⟩ := Kd.R_slice hR5
  obtain ⟨m5, hm5⟩ : ∃ m5, m5 = st.1.files.length := ⟨_, rfl⟩
  rw [← hm5] at hR5 ⊢
  have HR5 := Lib.hid hR5
  have HB5 := Lib.hid hb5
  clear hm5 hR5 hb5 x0 x1 x2 x3 x4 x5 q1 q4
  have x0 : w5.cell? ⟨w.heap.size, 0, none⟩ = some (.pointer (some ⟨db, 0, none⟩)) := cell_in HX5.out 0
  have x1 : w5.cell? ⟨w.heap.size, 1, none⟩ = some (.slice A m c) := cell_in HX5.out 1
  have x2 : w5.cell? ⟨w.heap.size, 2, none⟩ = some (.int .i64 σ.room) := cell_in HX5.out 2
  have x3 : w5.cell? ⟨w.heap.size, 3, none⟩ = some (.slice none 0 0) := cell_in HX5.out 3
  have x4 : w5.cell? ⟨w.heap.size, 4, none⟩ = some (.int .i64 σ.next) := cell_in HX5.out 4
  have x5 : w5.cell? ⟨w.heap.size, 5, none⟩ = some (.bool false) := cell_in HX5.out 5
  have y0 : w5.cell? ⟨w.heap.size + 2, 0, none⟩ = some (.pointer none) := cell_in HY5.out 0
  have y1 : w5.cell? ⟨w.heap.size + 2, 1, none⟩ = some (.slice none 0 0) := cell_in HY5.out 1
  have y2 : w5.cell? ⟨w.heap.size + 2, 2, none⟩ = some (.int .i64 0) := cell_in HY5.out 2
  have y3 : w5.cell? ⟨w.heap.size + 2, 3, none⟩ = some (.slice none 0 0) := cell_in HY5.out 3
  have y4 : w5.cell? ⟨w.heap.size + 2, 4, none⟩ = some (.int .i64 0) := cell_in HY5.out 4
  have y5 : w5.cell? ⟨w.heap.size + 2, 5, none⟩ = some (.bool false) := cell_in HY5.out 5
  have fz := free_in HX5.out
  have fy := free_in HY5.out
  go_wp2_with fail
  have e5 := blk_set (blk_set (blk_set (blk_set (blk_set HX5.out 1 (.slice A5 m5 c5)) 2 (.int .i64 st.1.room)) 3 (.slice none 0 0)) 4 (.int .i64 st.1.next)) 5 (.bool false)
  have f5 := (sets_other w5 w.heap.size (w.heap.size + 2) [(1, .slice A5 m5 c5), (2, .int .i64 st.1.room), (3, .slice none 0 0), (4, .int .i64 st.1.next), (5, .bool false)] (by omega)).trans HY5.out
  refine bodyPost_ret (results_ctt rfl _ _ (w.heap.size + 2) 31 #[.pointer (some ⟨db, 0, none⟩), .slice A5 m5 c5, .int .i64 st.1.room, .slice none 0 0, .int .i64 st.1.next, .bool false] (0, 0) _ rfl (blk_set (blk_set (blk_set (blk_set (blk_set (blk_set f5 0 _) 1 _) 2 _) 3 _) 4 _) 5 _) Try.underlying31 rfl (by kernel_rfl)) rfl ?_
  refine ⟨.slice A5 m5 c5, rfl, ?_, ?_, ?_⟩
  · exact ((HD4.out.below HB5.out).sets HX5.out (by decide) [(1, _), (2, _), (3, _), (4, _), (5, _)]).sets f5 (by decide) [(0, _), (1, _), (2, _), (3, _), (4, _), (5, _)]
  · exact R_sets (R_sets HR5.out HX5.out (by decide) [(1, _), (2, _), (3, _), (4, _), (5, _)]) f5 (by decide) [(0, _), (1, _), (2, _), (3, _), (4, _), (5, _)]
  · exact ((((Turned.of_below HB3.out).trans HT4.out).trans (Turned.of_below HB5.out)).sets (Nat.le_refl _) [(1, _), (2, _), (3, _), (4, _), (5, _)]).sets (by omega) [(0, _), (1, _), (2, _), (3, _), (4, _), (5, _)]
set_option maxHeartbeats 4000000 in
set_option maxRecDepth 100000 in
theorem files_move (σ : PD) (vf : Value) (db : Nat) (w : World) (hD : IsD lo w db σ) (hR : IsR w vf σ) (hF : σ.Fit) (hp : σ.power = true) (nme tn s : ByteArray) (n a1 a2 a3 : Int) (hnme : nme.size ≤ 9223372036854775807) (hto : tn.size ≤ 9223372036854775807) :
    Calls Try.prog 22 #[.agg (sv db vf σ), .agg #[.int .i64 2, .string nme, .string tn, .string s, .int .i64 n, .int .i64 a1, .int .i64 a2, .int .i64 a3]] w fun e' w' => ∃ vf', e' = .returned (.tuple #[.agg (sv db vf' (σ.move nme tn).1), .int .i64 (σ.move nme tn).2, .int .i64 (σ.move nme tn).2]) ∧ IsD lo w' db (σ.move nme tn).1 ∧ IsR w' vf' (σ.move nme tn).1 ∧ Turned lo w w' := by
  obtain ⟨A, c, rfl⟩ := Kd.R_slice hR
  obtain ⟨m, hm⟩ : ∃ m, m = σ.files.length := ⟨_, rfl⟩
  rw [← hm] at hR ⊢
  clear hm
  obtain ⟨w1, hw1⟩ : ∃ w1, w.alloc (.cells #[.pointer (some ⟨db, 0, none⟩), .slice A m c, .int .i64 σ.room, .slice none 0 0, .int .i64 σ.next, .bool false] 31) = w1 := ⟨_, rfl⟩
  have hs1 : w1.heap.size = w.heap.size + 1 := by rw [← hw1]; simp
  have hb1 : Below w.heap.size w w1 := by rw [← hw1]; exact (Below.refl _ _).alloc (Nat.le_refl _) _
  have hx1 : w1.heap[w.heap.size]? = some (.cells #[.pointer (some ⟨db, 0, none⟩), .slice A m c, .int .i64 σ.room, .slice none 0 0, .int .i64 σ.next, .bool false] 31 (0, 0)) := by rw [← hw1]; exact alloc_at w _
  obtain ⟨w2, hw2⟩ : ∃ w2, w1.alloc (.cells #[.int .i64 2, .string nme, .string tn, .string s, .int .i64 n, .int .i64 a1, .int .i64 a2, .int .i64 a3] 34) = w2 := ⟨_, rfl⟩
  have hs2 : w2.heap.size = w.heap.size + 2 := by rw [← hw2]; simp; omega
  have hb2 : Below w.heap.size w w2 := by rw [← hw2]; exact hb1.alloc hb1.size _
  have hx2 : w2.heap[w.heap.size]? = some (.cells #[.pointer (some ⟨db, 0, none⟩), .slice A m c, .int .i64 σ.room, .slice none 0 0, .int .i64 σ.next, .bool false] 31 (0, 0)) := by rw [← hw2]; exact (Below.heap_alloc w1 _ _ (blk_lt hx1)).trans hx1
  have ha2 : w2.heap[w.heap.size + 1]? = some (.cells #[.int .i64 2, .string nme, .string tn, .string s, .int .i64 n, .int .i64 a1, .int .i64 a2, .int .i64 a3] 34 (0, 0)) := by rw [← hw2, ← hs1]; exact alloc_at w1 _
  obtain ⟨w3, hw3⟩ : ∃ w3, w2.alloc (.cells #[.pointer none, .slice none 0 0, .int .i64 0, .slice none 0 0, .int .i64 0, .bool false] 31) = w3 := ⟨_, rfl⟩
  have HB3 := Lib.hid (show Below w.heap.size w w3 by rw [← hw3]; exact hb2.alloc hb2.size _)
  have HX3 := Lib.hid (show w3.heap[w.heap.size]? = some (.cells #[.pointer (some ⟨db, 0, none⟩), .slice A m c, .int .i64 σ.room, .slice none 0 0, .int .i64 σ.next, .bool false] 31 (0, 0)) by rw [← hw3]; exact (Below.heap_alloc w2 _ _ (blk_lt hx2)).trans hx2)
  have HA3 := Lib.hid (show w3.heap[w.heap.size + 1]? = some (.cells #[.int .i64 2, .string nme, .string tn, .string s, .int .i64 n, .int .i64 a1, .int .i64 a2, .int .i64 a3] 34 (0, 0)) by rw [← hw3]; exact (Below.heap_alloc w2 _ _ (blk_lt ha2)).trans ha2)
  have HY3 := Lib.hid (show w3.heap[w.heap.size + 2]? = some (.cells #[.pointer none, .slice none 0 0, .int .i64 0, .slice none 0 0, .int .i64 0, .bool false] 31 (0, 0)) by rw [← hw3, ← hs2]; exact alloc_at w2 _)
  have HP := Lib.hid (move_d (hD.below HB3.out) hF nme tn hnme hto)
  have HR := Lib.hid (fun W (hW : Turned lo w3 W) => rmove_pd σ (.slice A m c) W (IsR.turned (IsR.below hR HB3.out) hW) hp hF.len hD.rises (fun p hp => hF.file hp) ⟨hF.next0, hF.next1⟩ nme tn hnme hto)
  generalize hst : σ.move nme tn = st at HP HR ⊢
  clear hx1 hx2 ha2 hb1 hb2 hR hD hst
  go_enter Try.func22, Try.ntmps22
  have x0 : w3.cell? ⟨w.heap.size, 0, none⟩ = some (.pointer (some ⟨db, 0, none⟩)) := cell_in HX3.out 0
  have q0 : w3.cell? ⟨w.heap.size + 1, 0, none⟩ = some (.int .i64 2) := cell_in HA3.out 0
  have q1 : w3.cell? ⟨w.heap.size + 1, 1, none⟩ = some (.string nme) := cell_in HA3.out 1
  have q4 : w3.cell? ⟨w.heap.size + 1, 2, none⟩ = some (.string tn) := cell_in HA3.out 2
  go_wp2_with fail
  refine HP.out.mono ?_
  rintro e' w4 ⟨rfl, hD4, hT4⟩
  have HD4 := Lib.hid hD4
  have HT4 := Lib.hid hT4
  have HX4 := Lib.hid (turned_block HX3.out (by decide) hT4)
  have HA4 := Lib.hid (turned_block HA3.out (by decide) hT4)
  have HY4 := Lib.hid (turned_block HY3.out (by decide) hT4)
  clear x0 q0 q1 q4 hD4 hT4
  have x0 : w4.cell? ⟨w.heap.size, 0, none⟩ = some (.pointer (some ⟨db, 0, none⟩)) := cell_in HX4.out 0
  have x1 : w4.cell? ⟨w.heap.size, 1, none⟩ = some (.slice A m c) := cell_in HX4.out 1
  have x2 : w4.cell? ⟨w.heap.size, 2, none⟩ = some (.int .i64 σ.room) := cell_in HX4.out 2
  have x3 : w4.cell? ⟨w.heap.size, 3, none⟩ = some (.slice none 0 0) := cell_in HX4.out 3
  have x4 : w4.cell? ⟨w.heap.size, 4, none⟩ = some (.int .i64 σ.next) := cell_in HX4.out 4
  have x5 : w4.cell? ⟨w.heap.size, 5, none⟩ = some (.bool false) := cell_in HX4.out 5
  have q1 : w4.cell? ⟨w.heap.size + 1, 1, none⟩ = some (.string nme) := cell_in HA4.out 1
  have q4 : w4.cell? ⟨w.heap.size + 1, 2, none⟩ = some (.string tn) := cell_in HA4.out 2
  go_wp2_with fail
  refine (HR.out _ HT4.out).mono ?_
  rintro e' w5 ⟨vf', rfl, hR5, hb5⟩
  have HX5 := Lib.hid ((hb5.block _ (blk_lt HX4.out)).trans HX4.out)
  have HY5 := Lib.hid ((hb5.block _ (blk_lt HY4.out)).trans HY4.out)
  obtain ⟨A5, c5, rfl⟩ := Kd.R_slice hR5
  obtain ⟨m5, hm5⟩ : ∃ m5, m5 = st.1.files.length := ⟨_, rfl⟩
  rw [← hm5] at hR5 ⊢
  have HR5 := Lib.hid hR5
  have HB5 := Lib.hid hb5
  clear hm5 hR5 hb5 x0 x1 x2 x3 x4 x5 q1 q4
  have x0 : w5.cell? ⟨w.heap.size, 0, none⟩ = some (.pointer (some ⟨db, 0, none⟩)) := cell_in HX5.out 0
  have x1 : w5.cell? ⟨w.heap.size, 1, none⟩ = some (.slice A m c) := cell_in HX5.out 1
  have x2 : w5.cell? ⟨w.heap.size, 2, none⟩ = some (.int .i64 σ.room) := cell_in HX5.out 2
  have x3 : w5.cell? ⟨w.heap.size, 3, none⟩ = some (.slice none 0 0) := cell_in HX5.out 3
  have x4 : w5.cell? ⟨w.heap.size, 4, none⟩ = some (.int .i64 σ.next) := cell_in HX5.out 4
  have x5 : w5.cell? ⟨w.heap.size, 5, none⟩ = some (.bool false) := cell_in HX5.out 5
  have y0 : w5.cell? ⟨w.heap.size + 2, 0, none⟩ = some (.pointer none) := cell_in HY5.out 0
  have y1 : w5.cell? ⟨w.heap.size + 2, 1, none⟩ = some (.slice none 0 0) := cell_in HY5.out 1
  have y2 : w5.cell? ⟨w.heap.size + 2, 2, none⟩ = some (.int .i64 0) := cell_in HY5.out 2
  have y3 : w5.cell? ⟨w.heap.size + 2, 3, none⟩ = some (.slice none 0 0) := cell_in HY5.out 3
  have y4 : w5.cell? ⟨w.heap.size + 2, 4, none⟩ = some (.int .i64 0) := cell_in HY5.out 4
  have y5 : w5.cell? ⟨w.heap.size + 2, 5, none⟩ = some (.bool false) := cell_in HY5.out 5
  have fz := free_in HX5.out
  have fy := free_in HY5.out
  go_wp2_with fail
  have e5 := blk_set (blk_set (blk_set (blk_set (blk_set HX5.out 1 (.slice A5 m5 c5)) 2 (.int .i64 st.1.room)) 3 (.slice none 0 0)) 4 (.int .i64 st.1.next)) 5 (.bool false)
  have f5 := (sets_other w5 w.heap.size (w.heap.size + 2) [(1, .slice A5 m5 c5), (2, .int .i64 st.1.room), (3, .slice none 0 0), (4, .int .i64 st.1.next), (5, .bool false)] (by omega)).trans HY5.out
  refine bodyPost_ret (results_ctt rfl _ _ (w.heap.size + 2) 31 #[.pointer (some ⟨db, 0, none⟩), .slice A5 m5 c5, .int .i64 st.1.room, .slice none 0 0, .int .i64 st.1.next, .bool false] (0, 0) _ rfl (blk_set (blk_set (blk_set (blk_set (blk_set (blk_set f5 0 _) 1 _) 2 _) 3 _) 4 _) 5 _) Try.underlying31 rfl (by kernel_rfl)) rfl ?_
  refine ⟨.slice A5 m5 c5, rfl, ?_, ?_, ?_⟩
  · exact ((HD4.out.below HB5.out).sets HX5.out (by decide) [(1, _), (2, _), (3, _), (4, _), (5, _)]).sets f5 (by decide) [(0, _), (1, _), (2, _), (3, _), (4, _), (5, _)]
  · exact R_sets (R_sets HR5.out HX5.out (by decide) [(1, _), (2, _), (3, _), (4, _), (5, _)]) f5 (by decide) [(0, _), (1, _), (2, _), (3, _), (4, _), (5, _)]
  · exact ((((Turned.of_below HB3.out).trans HT4.out).trans (Turned.of_below HB5.out)).sets (Nat.le_refl _) [(1, _), (2, _), (3, _), (4, _), (5, _)]).sets (by omega) [(0, _), (1, _), (2, _), (3, _), (4, _), (5, _)]
end Go.Proofs.YtcongfiojbajeaaK
