/- image.Compare: two files by their paths, name by name. Conditions: paths of at most 250 bytes. -/
import Derived.Test.YtdhpolneplbhjaaGreatDoorImgPure
import Derived.Test.YtdhpolneplbhjaaGreatDoorSplit
namespace Go.Proofs.YtdhpolneplbhjaaGreatDoorG
open Go Go.RowKit Go.Proofs.YtdhpolneplbhjaaGreatDoorW.PrintWords Go.Proofs.YtdhpolneplbhjaaGreatDoorW.PrintMore
set_option linter.unusedVariables false
set_option linter.unusedSimpArgs false
def slash : ByteArray := ⟨#[47]⟩
def fcs2 (p : ByteArray) (d : Bool) (i : Int) (g : ByteArray) (n : Int) : Array Value := #[.string p, .bool d, .int .u64 i, .string g, .int .i64 n]
/-- What Split makes of a path. -/
def pieces (s : ByteArray) : List ByteArray := Lib.splitB slash 0 (Lib.countB s slash) s
theorem pieces_len (s : ByteArray) : (pieces s).length = Lib.countB s slash + 1 := Lib.splitB_all slash (by decide) 0 _ s rfl
theorem pieces_small (s : ByteArray) (hs : s.size ≤ 250) : (pieces s).length ≤ 252 := by
  rw [pieces_len]
  have := Lib.count_le s.data.toList slash.data.toList
  have h2 : Lib.countB s slash = Lib.count s.data.toList slash.data.toList := rfl
  have h3 : s.data.toList.length = s.size := by simp
  omega
theorem split_any (s : ByteArray) (hs : s.size ≤ 250) (w : World) :
    Calls Tryz.prog 9 #[.string s, .string ⟨#[47]⟩] w fun e w' => e = .returned (.slice (some ⟨w.heap.size, 0, none⟩) (pieces s).length (pieces s).length) ∧ w' = w.alloc (.cells ((pieces s).map Value.string).toArray 9) := by
  have := Go.Proofs.YtdhpolneplbhjaaGreatDoorP.split_one Tryz.lays146 (by kernel_rfl) s 47 w (by omega)
  rw [pieces_len]
  exact this
set_option maxHeartbeats 8000000 in
set_option maxRecDepth 100000 in
theorem comp_any (p : ByteArray) (d : Bool) (i : Int) (g : ByteArray) (n : Int) (p' : ByteArray) (d' : Bool) (i' : Int) (g' : ByteArray) (n' : Int) (hp : p.size ≤ 250) (hp' : p'.size ≤ 250) (w : World) :
    Calls Tryz.prog 4 #[.agg (fcs2 p d i g n), .agg (fcs2 p' d' i' g' n')] w fun e w' => e = .returned (.int .i64 (cmpL (pieces p) (pieces p'))) ∧ Below w.heap.size w w' := by
  have mixed : Tryz.prog.follows .mixedOrders = true := by kernel_rfl
  have HS : Hid2 (∀ (w' : World), Below w.heap.size w w' → Calls Tryz.prog 9 #[.string p, .string ⟨#[47]⟩] w' fun e w2 => e = .returned (.slice (some ⟨w'.heap.size, 0, none⟩) (pieces p).length (pieces p).length) ∧ w2 = w'.alloc (.cells ((pieces p).map Value.string).toArray 9)) := fun w' hb => split_any p hp w'
  have HS' : Hid2 (∀ (w' : World), Below w.heap.size w w' → Calls Tryz.prog 9 #[.string p', .string ⟨#[47]⟩] w' fun e w2 => e = .returned (.slice (some ⟨w'.heap.size, 0, none⟩) (pieces p').length (pieces p').length) ∧ w2 = w'.alloc (.cells ((pieces p').map Value.string).toArray 9)) := fun w' hb => split_any p' hp' w'
  have hl := pieces_small p hp
  have hl' := pieces_small p' hp'
  have HL : Hid2 ((pieces p).length ≤ 252 ∧ (pieces p').length ≤ 252) := ⟨hl, hl'⟩
  have HR1 : Hid2 (∀ (X Y : Obj) (j : Nat) (s : ByteArray), (pieces p)[j]? = some s → ((((w.alloc X).alloc Y).alloc (.cells ((pieces p).map Value.string).toArray 9)).alloc (.cells ((pieces p').map Value.string).toArray 9)).drew.cell? ⟨w.heap.size + 1 + 1, j, none⟩ = some (.string s)) := fun X Y j s h => by
    show ((((w.alloc X).alloc Y).alloc (.cells ((pieces p).map Value.string).toArray 9)).alloc (.cells ((pieces p').map Value.string).toArray 9)).cell? ⟨w.heap.size + 1 + 1, j, none⟩ = some (.string s)
    rw [World.cell?_alloc_past _ _ _ (by simp), World.cell?_alloc_at _ _ _ _ (by simp)]
    simp [h]
  have HR2 : Hid2 (∀ (X Y : Obj) (j : Nat) (s : ByteArray), (pieces p')[j]? = some s → ((((w.alloc X).alloc Y).alloc (.cells ((pieces p).map Value.string).toArray 9)).alloc (.cells ((pieces p').map Value.string).toArray 9)).drew.cell? ⟨w.heap.size + 1 + 1 + 1, j, none⟩ = some (.string s)) := fun X Y j s h => by
    show ((((w.alloc X).alloc Y).alloc (.cells ((pieces p).map Value.string).toArray 9)).alloc (.cells ((pieces p').map Value.string).toArray 9)).cell? ⟨w.heap.size + 1 + 1 + 1, j, none⟩ = some (.string s)
    rw [World.cell?_alloc_at _ _ _ _ (by simp)]
    simp [h]
  have HF : Hid2 (∀ (X Y Z U : Obj), Below w.heap.size w ((((w.alloc X).alloc Y).alloc Z).alloc U).drew) := fun X Y Z U => by
    repeat' (first | exact Below.refl _ _ | refine Below.drew ?_ | refine Below.alloc ?_ (by simp <;> omega) _)
  clear hl hl' hp hp'
  unfold fcs2
  go_enter Tryz.func4, Tryz.ntmps4
  go_wp2
  go_region_with (first
    | (refine (HS.out _ (by repeat' (first | exact Below.refl _ _ | refine Below.drew ?_ | refine Below.alloc ?_ (by simp <;> omega) _))).mono ?_; rintro e w1 ⟨rfl, rfl⟩)
    | (refine (HS'.out _ (by repeat' (first | exact Below.refl _ _ | refine Below.drew ?_ | refine Below.alloc ?_ (by simp <;> omega) _))).mono ?_; rintro e w1 ⟨rfl, rfl⟩)
    | (refine (rows_any _ _ _ _ (pieces p) (pieces p') _ (Nat.le_trans HL.out.1 (by decide)) (Nat.le_trans HL.out.2 (by decide)) (HR1.out _ _) (HR2.out _ _)).mono ?_; rintro e w1 ⟨rfl, rfl⟩))
  all_goals (go_wp2; go_ret; exact ⟨rfl, HF.out _ _ _ _⟩)
end Go.Proofs.YtdhpolneplbhjaaGreatDoorG
