/- The disk counts its changes (no plan): due. Conditions: the plan is empty; fewer than 1000000000 changes. -/
import Derived.Test.YtcongfiojbajeaaDiskRead
namespace Go.Proofs.YtcongfiojbajeaaK
open Go Go.RowKit Go.Maps Go.Proofs.YtcongfiojbajeaaM Go.Proofs.YtcongfiojbajeaaW.PrintWords Go.Proofs.YtcongfiojbajeaaN
set_option linter.unusedVariables false
set_option linter.unusedSimpArgs false
set_option maxRecDepth 100000 in
theorem idx_nil (fv : Value) (w : World) : Calls Try.prog 48 #[.slice none 0 0, fv] w fun e w' => e = .returned (.int .i64 (-1)) ∧ w' = w := by
  go_enter Try.func48, Try.ntmps48
  go_wp2_with fail
  go_loopw [8] (fun i wr => i = .int .i64 0 ∧ wr = w) (fun i _ => 0)
  case atStart => exact ⟨rfl, rfl⟩
  case round =>
    obtain ⟨rfl, rfl⟩ := hrel
    go_wp2_with fail
    go_ret
    exact ⟨rfl, rfl⟩
section
variable {w : World} {db mb : Nat} {names : List (ByteArray × Nat)} {room next : Int} {power : Bool}
set_option maxRecDepth 100000 in
theorem due_any (h : IsObj w db mb names room power next) (h0 : 0 ≤ next) (h1 : next ≤ 1000000000) : Calls Try.prog 28 #[.pointer (some ⟨db, 0, none⟩)] w fun e w' => e = .returned (.int .i64 0) ∧ IsObj w' db mb names room power (next + 1) ∧ Turn (fun k => k = db) w w' := by
  obtain ⟨w1, hw1⟩ : ∃ w1, w.alloc (.cells #[.pointer (some ⟨db, 0, none⟩)] 25) = w1 := ⟨_, rfl⟩
  have hT : Turn (fun k => k = db) w w1 := by rw [← hw1]; exact (Turn.refl _ _).alloc _
  have hb : Below w.heap.size w w1 := by rw [← hw1]; exact (Below.refl _ _).alloc (Nat.le_refl _) _
  have h1' : IsObj w1 db mb names room power next := h.below hb
  have HT := Lib.hid hT
  have HO := Lib.hid h1'
  have hp : w1.heap[w.heap.size]? = some (.cells #[.pointer (some ⟨db, 0, none⟩)] 25 (0, 0)) := by rw [← hw1]; exact alloc_at w _
  have p0 : w1.cell? ⟨w.heap.size, 0, none⟩ = some (.pointer (some ⟨db, 0, none⟩)) := cell_in hp 0
  have x3 : w1.cell? ⟨db, 3, none⟩ = some (.int .i64 next) := cell_in h1'.cells 3
  have x4 : w1.cell? ⟨db, 4, none⟩ = some (.slice none 0 0) := cell_in h1'.cells 4
  have fz := free_in h1'.cells
  have hwr : wrap64 (next + 1) = next + 1 := by unfold wrap64; omega
  clear hT hb h1' h hp
  go_enter Try.func28, Try.ntmps28
  go_wp2_with fail
  refine (idx_nil _ w1).mono ?_
  rintro e w2 ⟨rfl, hw⟩
  subst hw
  go_wp2_with fail
  go_ret
  exact ⟨rfl, ⟨blk_set HO.out.cells 3 _, HO.out.map.set (a := ⟨db, 3, none⟩) (HO.out.map.ne_cells HO.out.cells) _⟩, HT.out.setCell (p := ⟨db, 3, none⟩) rfl _⟩
end
end Go.Proofs.YtcongfiojbajeaaK
