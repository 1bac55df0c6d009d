/- The disk's small methods: Changes, Room, Up. Conditions: none. -/
import Derived.Test.YtcongfiojbajeaaDiskDue
namespace Go.Proofs.YtcongfiojbajeaaK
open Go Go.RowKit Go.Maps Go.Proofs.YtcongfiojbajeaaM Go.Proofs.YtcongfiojbajeaaW.PrintWords Go.Proofs.YtcongfiojbajeaaN
set_option linter.unusedVariables false
set_option linter.unusedSimpArgs false
section
variable {w : World} {db mb : Nat} {names : List (ByteArray × Nat)} {room next : Int} {power : Bool}
set_option maxRecDepth 100000 in
theorem changes_any (h : IsObj w db mb names room power next) : Calls Try.prog 33 #[.pointer (some ⟨db, 0, none⟩)] w fun e w' => e = .returned (.int .i64 next) ∧ w' = w := by
  have x3 : w.cell? ⟨db, 3, none⟩ = some (.int .i64 next) := cell_in h.cells 3
  clear h
  go_enter Try.func33, Try.ntmps33
  go_wp2
  go_ret
  exact ⟨rfl, rfl⟩
set_option maxRecDepth 100000 in
theorem room_any (h : IsObj w db mb names room power next) (n : Int) : Calls Try.prog 20 #[.pointer (some ⟨db, 0, none⟩), .int .i64 n] w fun e w' => e = .returned (.tuple #[]) ∧ IsObj w' db mb names n power next ∧ Turn (fun k => k = db) w w' := by
  have x1 : w.cell? ⟨db, 1, none⟩ = some (.int .i64 room) := cell_in h.cells 1
  have fz := free_in h.cells
  have HO := Lib.hid h
  have HR := Lib.hid (Turn.refl (fun k => k = db) w)
  clear h
  go_enter Try.func20, Try.ntmps20
  go_wp2
  refine bodyPost_end (results_none rfl _ _ _) rfl ?_
  exact ⟨rfl, ⟨blk_set HO.out.cells 1 _, HO.out.map.set (a := ⟨db, 1, none⟩) (HO.out.map.ne_cells HO.out.cells) _⟩, HR.out.setCell (p := ⟨db, 1, none⟩) rfl _⟩
set_option maxRecDepth 100000 in
theorem up_any (h : IsObj w db mb names room power next) : Calls Try.prog 13 #[.pointer (some ⟨db, 0, none⟩)] w fun e w' => e = .returned (.bool (!power)) ∧ IsObj w' db mb names room true next ∧ Turn (fun k => k = db) w w' := by
  have x2 : w.cell? ⟨db, 2, none⟩ = some (.bool power) := cell_in h.cells 2
  have fz := free_in h.cells
  have HO := Lib.hid h
  have HR := Lib.hid (Turn.refl (fun k => k = db) w)
  clear h
  cases power with
  | true =>
    go_enter Try.func13, Try.ntmps13
    go_wp2
    go_ret
    exact ⟨rfl, HO.out, HR.out⟩
  | false =>
    go_enter Try.func13, Try.ntmps13
    go_wp2
    go_ret
    exact ⟨rfl, ⟨blk_set HO.out.cells 2 _, HO.out.map.set (a := ⟨db, 2, none⟩) (HO.out.map.ne_cells HO.out.cells) _⟩, HR.out.setCell (p := ⟨db, 2, none⟩) rfl _⟩
end
end Go.Proofs.YtcongfiojbajeaaK
