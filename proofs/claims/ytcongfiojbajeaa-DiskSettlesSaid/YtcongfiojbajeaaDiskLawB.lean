/- The law of the disk: fresh. -/
import Derived.Test.YtcongfiojbajeaaDiskLawA
namespace Go.Proofs.YtcongfiojbajeaaK
open Go Go.RowKit Go.Maps Go.Proofs.YtcongfiojbajeaaM Go.Proofs.YtcongfiojbajeaaW.PrintWords Go.Proofs.YtcongfiojbajeaaN
variable {lo : Nat}
set_option linter.unusedVariables false
set_option linter.unusedSimpArgs false
/-- A block of a foreign type is not the disk's. -/
theorem not_mine {w : World} {g t : Nat} {cells : Array Value} (hg : w.heap[g]? = some (.cells cells t (0, 0))) (ht : t ≠ 61 ∧ t ≠ 69 ∧ t ≠ 58) : ¬ Mine lo w g := by
  rintro ⟨_, ⟨es, c, h⟩ | ⟨cs, t', h, h'⟩⟩
  · rw [hg] at h; cases h
  · rw [hg] at h; cases h; rcases h' with h' | h' | h'
    · exact ht.1 h'
    · exact ht.2.1 h'
    · exact ht.2.2 h'
theorem IsD.setCell {w : World} {db g t : Nat} {σ : PD} {cells : Array Value} (h : IsD lo w db σ) (hg : w.heap[g]? = some (.cells cells t (0, 0))) (ht : t ≠ 61 ∧ t ≠ 69 ∧ t ≠ 58) (j : Nat) (v : Value) : IsD lo (w.setCell ⟨g, j, none⟩ v) db σ := by
  obtain ⟨mb, L, e, h⟩ := h
  have hn := not_mine (lo := lo) hg ht
  refine ⟨mb, L, e, h.stay (S := fun k => k = g) (Turn.setCell (S := fun k => k = g) (p := ⟨g, j, none⟩) (Turn.refl _ w) rfl v) ?_ ?_ ?_⟩
  · rintro rfl; exact hn (mine_db h)
  · rintro rfl; exact hn (mine_mb h)
  · intro p hp
    refine ⟨?_, ?_⟩
    · intro e; exact hn (e ▸ mine_fb (h.own p hp))
    · intro k hk e; exact hn (e ▸ mine_row (h.own p hp) k hk)
theorem IsD.sets {w : World} {db g t : Nat} {σ : PD} {cells : Array Value} (h : IsD lo w db σ) (hg : w.heap[g]? = some (.cells cells t (0, 0))) (ht : t ≠ 61 ∧ t ≠ 69 ∧ t ≠ 58) (l : List (Nat × Value)) : IsD lo (setsOf w g l) db σ := by
  induction l generalizing w cells with
  | nil => exact h
  | cons p l ih => exact ih (h.setCell hg ht p.1 p.2) (blk_set hg p.1 p.2)
set_option maxRecDepth 100000 in
theorem fresh_any (w : World) (hlo : lo ≤ w.heap.size) :
    Calls Try.prog 5 #[] w fun e' w' => ∃ db, e' = .returned (.agg #[.pointer (some ⟨db, 0, none⟩), .slice none 0 0, .int .i64 (-1), .slice none 0 0, .int .i64 0, .bool false]) ∧ IsD lo w' db ⟨[], -1, true, 0⟩ ∧ Below w.heap.size w w' := by
  obtain ⟨w1, hw1⟩ : ∃ w1, w.alloc (.cells #[.pointer none, .slice none 0 0, .int .i64 0, .slice none 0 0, .int .i64 0, .bool false] 31) = w1 := ⟨_, rfl⟩
  have HB1 := Lib.hid (show Below w.heap.size w w1 by rw [← hw1]; exact (Below.refl _ _).alloc (Nat.le_refl _) _)
  have HX1 := Lib.hid (show w1.heap[w.heap.size]? = some (.cells #[.pointer none, .slice none 0 0, .int .i64 0, .slice none 0 0, .int .i64 0, .bool false] 31 (0, 0)) by rw [← hw1]; exact alloc_at w _)
  have HN := Lib.hid (new_d (lo := lo) w1 (Nat.le_trans hlo HB1.out.size))
  go_enter Try.func5, Try.ntmps5
  go_wp2_with fail
  refine HN.out.mono ?_
  rintro e' w2 ⟨rfl, hD, hb⟩
  have HD := Lib.hid hD
  have HB2 := Lib.hid (HB1.out.trans (hb.mono HB1.out.size))
  have HX2 := Lib.hid ((hb.block _ (blk_lt HX1.out)).trans HX1.out)
  obtain ⟨db, hdb⟩ : ∃ db, db = w1.heap.size + 1 := ⟨_, rfl⟩
  rw [← hdb] at HD ⊢
  clear hD hb hw1 HN hdb
  have x0 : w2.cell? ⟨w.heap.size, 0, none⟩ = some (.pointer none) := cell_in HX2.out 0
  have x1 : w2.cell? ⟨w.heap.size, 1, none⟩ = some (.slice none 0 0) := cell_in HX2.out 1
  have x2 : w2.cell? ⟨w.heap.size, 2, none⟩ = some (.int .i64 0) := cell_in HX2.out 2
  have x3 : w2.cell? ⟨w.heap.size, 3, none⟩ = some (.slice none 0 0) := cell_in HX2.out 3
  have x4 : w2.cell? ⟨w.heap.size, 4, none⟩ = some (.int .i64 0) := cell_in HX2.out 4
  have x5 : w2.cell? ⟨w.heap.size, 5, none⟩ = some (.bool false) := cell_in HX2.out 5
  have fz := free_in HX2.out
  go_wp2_with fail
  refine bodyPost_ret (results_cell_row rfl _ _ w.heap.size 31 #[.pointer (some ⟨db, 0, none⟩), .slice none 0 0, .int .i64 (-1), .slice none 0 0, .int .i64 0, .bool false] (0, 0) _ rfl (blk_set (blk_set (blk_set (blk_set (blk_set (blk_set HX2.out 0 _) 1 _) 2 _) 3 _) 4 _) 5 _) Try.underlying31 rfl (by kernel_rfl)) rfl ?_
  exact ⟨db, rfl, HD.out.sets HX2.out (by decide) [(0, _), (1, _), (2, _), (3, _), (4, _), (5, _)], below_sets HB2.out (Nat.le_refl _) [(0, _), (1, _), (2, _), (3, _), (4, _), (5, _)]⟩
end Go.Proofs.YtcongfiojbajeaaK
